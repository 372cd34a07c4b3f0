/- What the functions compute, and that they do: printed by a program of this session (zgen.py), proved by Zed. -/
import Derived.Test.YtakamchmiakicaaDoorProg
import Derived.Test.YtakamchmiakicaaDoorZedYa
import Derived.Test.YtakamchmiakicaaDoorLeaf
import Derived.Test.YtakamchmiakicaaDoorSText
namespace Go.Proofs.YtakamchmiakicaaDoorF25b
open Go Zed Go.Proofs.YtakamchmiakicaaDoorLeaf Go.Proofs.YtakamchmiakicaaDoorSText
set_option maxRecDepth 100000
set_option linter.unusedVariables false
def tab : Tab := [(3, ⟨.int .i64, 1, 8, [.int .i64 0], some (.int .i64), none⟩), (5, ⟨.int .u8, 1, 1, [.int .u8 0], some (.int .u8), none⟩), (9, ⟨.str, 1, 16, [.str (⟨#[]⟩ : ByteArray)], some .str, none⟩), (22, ⟨.slice 79, 1, 24, [.sl .unit []], some (.slice (.pair (.int .i64) (.pair (.int .i64) (.pair (.int .i64) (.pair (.int .i64) (.pair (.int .i64) (.pair (.int .i64) (.slice (.int .u8))))))))), none⟩), (23, ⟨.int .i64, 1, 8, [.int .i64 0], some (.int .i64), none⟩), (31, ⟨.slice 9, 1, 24, [.sl .unit []], some (.slice .str), none⟩), (54, ⟨.slice 5, 1, 24, [.sl .unit []], some (.slice (.int .u8)), none⟩), (77, ⟨.int .i64, 1, 8, [.int .i64 0], some (.int .i64), none⟩), (79, ⟨.struct [(0, 77), (1, 3), (2, 3), (3, 3), (4, 3), (5, 3), (6, 54)], 7, 72, [.int .i64 0, .int .i64 0, .int .i64 0, .int .i64 0, .int .i64 0, .int .i64 0, .sl .unit []], some (.pair (.int .i64) (.pair (.int .i64) (.pair (.int .i64) (.pair (.int .i64) (.pair (.int .i64) (.pair (.int .i64) (.slice (.int .u8)))))))), some [(0, 77), (1, 3), (2, 3), (3, 3), (4, 3), (5, 3), (6, 54)]⟩), (114, ⟨.struct [(0, 9), (1, 9)], 2, 32, [.str (⟨#[]⟩ : ByteArray), .str (⟨#[]⟩ : ByteArray)], some (.pair .str .str), some [(0, 9), (1, 9)]⟩), (115, ⟨.arr 17 114, 34, 544, [.str (⟨#[]⟩ : ByteArray), .str (⟨#[]⟩ : ByteArray), .str (⟨#[]⟩ : ByteArray), .str (⟨#[]⟩ : ByteArray), .str (⟨#[]⟩ : ByteArray), .str (⟨#[]⟩ : ByteArray), .str (⟨#[]⟩ : ByteArray), .str (⟨#[]⟩ : ByteArray), .str (⟨#[]⟩ : ByteArray), .str (⟨#[]⟩ : ByteArray), .str (⟨#[]⟩ : ByteArray), .str (⟨#[]⟩ : ByteArray), .str (⟨#[]⟩ : ByteArray), .str (⟨#[]⟩ : ByteArray), .str (⟨#[]⟩ : ByteArray), .str (⟨#[]⟩ : ByteArray), .str (⟨#[]⟩ : ByteArray), .str (⟨#[]⟩ : ByteArray), .str (⟨#[]⟩ : ByteArray), .str (⟨#[]⟩ : ByteArray), .str (⟨#[]⟩ : ByteArray), .str (⟨#[]⟩ : ByteArray), .str (⟨#[]⟩ : ByteArray), .str (⟨#[]⟩ : ByteArray), .str (⟨#[]⟩ : ByteArray), .str (⟨#[]⟩ : ByteArray), .str (⟨#[]⟩ : ByteArray), .str (⟨#[]⟩ : ByteArray), .str (⟨#[]⟩ : ByteArray), .str (⟨#[]⟩ : ByteArray), .str (⟨#[]⟩ : ByteArray), .str (⟨#[]⟩ : ByteArray), .str (⟨#[]⟩ : ByteArray), .str (⟨#[]⟩ : ByteArray)], some (.pair (.pair .str .str) (.pair (.pair .str .str) (.pair (.pair .str .str) (.pair (.pair .str .str) (.pair (.pair .str .str) (.pair (.pair .str .str) (.pair (.pair .str .str) (.pair (.pair .str .str) (.pair (.pair .str .str) (.pair (.pair .str .str) (.pair (.pair .str .str) (.pair (.pair .str .str) (.pair (.pair .str .str) (.pair (.pair .str .str) (.pair (.pair .str .str) (.pair (.pair .str .str) (.pair .str .str))))))))))))))))), none⟩), (117, ⟨.ptr 3, 1, 8, [.nilP], none, none⟩)]
theorem ht : TabOk Go.Proofs.Tryd.prog tab := tabOk_of (ts := [3, 5, 9, 22, 23, 31, 54, 77, 79, 114, 115, 117]) (by kernel_rfl)
theorem hm : Go.Proofs.Tryd.prog.follows .mixedOrders = true := by kernel_rfl
abbrev zi (n : Int) : Z1 := .d (.int .i64 n)
abbrev oc (z : Z1) : Z := .one (.c z)
/-! brougham/broughamlaw25.great -/
def f39_broughamlaw25_great_in (l : List (Int × Int × Int × Int × Int × Int × List Int)) : Inn := ⟨[.c (.d (.sl (.pair (.int .i64) (.pair (.int .i64) (.pair (.int .i64) (.pair (.int .i64) (.pair (.int .i64) (.pair (.int .i64) (.slice (.int .u8)))))))) l))], [], [], 0⟩
def f39_broughamlaw25_great_out (r : Bool) : Out := ⟨oc (.d (.bool r)), [], [], 0⟩
def f39_broughamlaw25_great_L3 : Nat → (List (Int × Int × Int × Int × Int × Int × List Int)) → Int → Int → Option ((Bool) ⊕ (List (Int × Int × Int × Int × Int × Int × List Int)))
  | 0, _, _, _ => none
  | n + 1, l, n_, i =>
    if (decide ((i : Int) < ((l.length : Nat) : Int))) = true then
      if (decide ((i : Int) < 600)) = true then
        if (0 : Int) ≤ i ∧ i < (((l).length : Nat) : Int) then
        if (decide (((IntKind.wrap .i64 (n_ + (((((((((l.getD i.toNat (0, (0, (0, (0, (0, (0, []))))))).2).2).2).2).2).2).length : Nat) : Int))) : Int) > 40000)) = true then
          some (.inl true)
        else
          f39_broughamlaw25_great_L3 n l (IntKind.wrap .i64 (n_ + (((((((((l.getD i.toNat (0, (0, (0, (0, (0, (0, []))))))).2).2).2).2).2).2).length : Nat) : Int))) (IntKind.wrap .i64 (i + 1))
        else none
      else
        some (.inr l)
    else
      some (.inr l)
def f39_broughamlaw25_great_L3_k (w : (Bool) ⊕ (List (Int × Int × Int × Int × Int × Int × List Int))) (o : Out) : Prop := match w with
  | .inl e => o = f39_broughamlaw25_great_out e
  | .inr e => At Tryd.prog Tryd.f39 0 8 ⟨[(0, oc (.d (.sl (.pair (.int .i64) (.pair (.int .i64) (.pair (.int .i64) (.pair (.int .i64) (.pair (.int .i64) (.pair (.int .i64) (.slice (.int .u8)))))))) e)))], [], [], 0⟩ o
theorem f39_broughamlaw25_great_L3_ok (n : Nat) : ∀ (l : List (Int × Int × Int × Int × Int × Int × List Int)) (n_ : Int) (i : Int) (w : (Bool) ⊕ (List (Int × Int × Int × Int × Int × Int × List Int))) (h : f39_broughamlaw25_great_L3 n l n_ i = some w) (o : Out) (hk : f39_broughamlaw25_great_L3_k w o), At Tryd.prog Tryd.f39 0 3 ⟨[(0, oc (.d (.sl (.pair (.int .i64) (.pair (.int .i64) (.pair (.int .i64) (.pair (.int .i64) (.pair (.int .i64) (.pair (.int .i64) (.slice (.int .u8)))))))) l))), (3, oc (zi n_)), (4, oc (zi i))], [], [], 0⟩ o := by
  induction n with
  | zero => intro l n_ i w h; rw [f39_broughamlaw25_great_L3] at h; cases h
  | succ n ih =>
    intro l n_ i w h o hk
    rw [f39_broughamlaw25_great_L3] at h
    rcases iteS h with ⟨b6_4, h⟩ | ⟨b6_4, h⟩
    · rcases iteS h with ⟨b6_e0, h⟩ | ⟨b6_e0, h⟩
      · refine At.step hm ht ⟨[(4, .b true)], [true], [], [0, 3, 4], []⟩ 5 ⟨[(0, oc (.d (.sl (.pair (.int .i64) (.pair (.int .i64) (.pair (.int .i64) (.pair (.int .i64) (.pair (.int .i64) (.pair (.int .i64) (.slice (.int .u8)))))))) l))), (3, oc (zi n_)), (4, oc (zi i))], [], [], 0⟩ [(decide ((i : Int) < ((l.length : Nat) : Int))) = true, (decide ((i : Int) < 600)) = true] (by kernel_rfl) ⟨b6_4, b6_e0, trivial⟩ ?_
        obtain ⟨g7_0, h⟩ := ifS h
        refine At.step hm ht ⟨[], [], [], [0, 3, 4], []⟩ 6 ⟨[(0, oc (.d (.sl (.pair (.int .i64) (.pair (.int .i64) (.pair (.int .i64) (.pair (.int .i64) (.pair (.int .i64) (.pair (.int .i64) (.slice (.int .u8)))))))) l))), (3, oc (zi (IntKind.wrap .i64 (n_ + (((((((((l.getD i.toNat (0, (0, (0, (0, (0, (0, []))))))).2).2).2).2).2).2).length : Nat) : Int))))), (4, oc (zi i))], [], [], 0⟩ [(0 : Int) ≤ i ∧ i < (((l).length : Nat) : Int)] (by kernel_rfl) ⟨g7_0, trivial⟩ ?_
        rcases iteS h with ⟨b8_e0, h⟩ | ⟨b8_e0, h⟩
        · refine At.step hm ht ⟨[], [true], [], [], []⟩ 7 ⟨[], [], [], 0⟩ [(decide (((IntKind.wrap .i64 (n_ + (((((((((l.getD i.toNat (0, (0, (0, (0, (0, (0, []))))))).2).2).2).2).2).2).length : Nat) : Int))) : Int) > 40000)) = true] (by kernel_rfl) ⟨b8_e0, trivial⟩ ?_
          have h := Option.some.inj h
          subst h
          have hk : o = f39_broughamlaw25_great_out true := hk
          subst hk
          exact At.fin hm ht ⟨[], [], [], [2], []⟩ [] (by kernel_rfl) trivial
        · refine At.step hm ht ⟨[], [false], [], [0, 3, 4], []⟩ 4 ⟨[(0, oc (.d (.sl (.pair (.int .i64) (.pair (.int .i64) (.pair (.int .i64) (.pair (.int .i64) (.pair (.int .i64) (.pair (.int .i64) (.slice (.int .u8)))))))) l))), (3, oc (zi (IntKind.wrap .i64 (n_ + (((((((((l.getD i.toNat (0, (0, (0, (0, (0, (0, []))))))).2).2).2).2).2).2).length : Nat) : Int))))), (4, oc (zi i))], [], [], 0⟩ [(decide (((IntKind.wrap .i64 (n_ + (((((((((l.getD i.toNat (0, (0, (0, (0, (0, (0, []))))))).2).2).2).2).2).2).length : Nat) : Int))) : Int) > 40000)) = false] (by kernel_rfl) ⟨b8_e0, trivial⟩ ?_
          refine At.step hm ht ⟨[], [], [], [0, 3, 4], []⟩ 3 ⟨[(0, oc (.d (.sl (.pair (.int .i64) (.pair (.int .i64) (.pair (.int .i64) (.pair (.int .i64) (.pair (.int .i64) (.pair (.int .i64) (.slice (.int .u8)))))))) l))), (3, oc (zi (IntKind.wrap .i64 (n_ + (((((((((l.getD i.toNat (0, (0, (0, (0, (0, (0, []))))))).2).2).2).2).2).2).length : Nat) : Int))))), (4, oc (zi (IntKind.wrap .i64 (i + 1))))], [], [], 0⟩ [] (by kernel_rfl) trivial ?_
          exact ih l (IntKind.wrap .i64 (n_ + (((((((((l.getD i.toNat (0, (0, (0, (0, (0, (0, []))))))).2).2).2).2).2).2).length : Nat) : Int))) (IntKind.wrap .i64 (i + 1)) w h o hk
      · refine At.step hm ht ⟨[(4, .b true)], [false], [], [0], []⟩ 8 ⟨[(0, oc (.d (.sl (.pair (.int .i64) (.pair (.int .i64) (.pair (.int .i64) (.pair (.int .i64) (.pair (.int .i64) (.pair (.int .i64) (.slice (.int .u8)))))))) l)))], [], [], 0⟩ [(decide ((i : Int) < ((l.length : Nat) : Int))) = true, (decide ((i : Int) < 600)) = false] (by kernel_rfl) ⟨b6_4, b6_e0, trivial⟩ ?_
        have h := Option.some.inj h
        subst h
        exact hk
    · refine At.step hm ht ⟨[(4, .b false)], [false], [], [0], []⟩ 8 ⟨[(0, oc (.d (.sl (.pair (.int .i64) (.pair (.int .i64) (.pair (.int .i64) (.pair (.int .i64) (.pair (.int .i64) (.pair (.int .i64) (.slice (.int .u8)))))))) l)))], [], [], 0⟩ [(decide ((i : Int) < ((l.length : Nat) : Int))) = false, false = false] (by kernel_rfl) ⟨b6_4, rfl, trivial⟩ ?_
      have h := Option.some.inj h
      subst h
      exact hk
def f39_broughamlaw25_great (n : Nat) (l : List (Int × Int × Int × Int × Int × Int × List Int)) : Option (Bool) :=
  (f39_broughamlaw25_great_L3 n l 0 0).bind fun w11 =>
  match w11 with
  | .inl e12 =>
    some e12
  | .inr e13 =>
    some (decide ((((e13.length : Nat) : Int) : Int) > 600))
theorem f39_broughamlaw25_great_ok (n : Nat) (l : List (Int × Int × Int × Int × Int × Int × List Int)) (r : Bool) (h : f39_broughamlaw25_great n l = some r) : FnOK Tryd.prog 39 (f39_broughamlaw25_great_in l) (f39_broughamlaw25_great_out r) := by
  unfold f39_broughamlaw25_great at h
  refine At.fn (r := 0) Tryd.func39 rfl (by kernel_rfl) rfl rfl (by kernel_rfl) ?_
  show At Tryd.prog Tryd.f39 0 0 ⟨[(0, oc (.d (.sl (.pair (.int .i64) (.pair (.int .i64) (.pair (.int .i64) (.pair (.int .i64) (.pair (.int .i64) (.pair (.int .i64) (.slice (.int .u8)))))))) l)))], [], [], 0⟩ _
  refine At.step hm ht ⟨[], [], [], [0], []⟩ 1 ⟨[(0, oc (.d (.sl (.pair (.int .i64) (.pair (.int .i64) (.pair (.int .i64) (.pair (.int .i64) (.pair (.int .i64) (.pair (.int .i64) (.slice (.int .u8)))))))) l)))], [], [], 0⟩ [] (by kernel_rfl) trivial ?_
  refine At.step hm ht ⟨[], [], [], [0, 3], []⟩ 2 ⟨[(0, oc (.d (.sl (.pair (.int .i64) (.pair (.int .i64) (.pair (.int .i64) (.pair (.int .i64) (.pair (.int .i64) (.pair (.int .i64) (.slice (.int .u8)))))))) l))), (3, oc (zi 0))], [], [], 0⟩ [] (by kernel_rfl) trivial ?_
  refine At.step hm ht ⟨[], [], [], [0, 3, 4], []⟩ 3 ⟨[(0, oc (.d (.sl (.pair (.int .i64) (.pair (.int .i64) (.pair (.int .i64) (.pair (.int .i64) (.pair (.int .i64) (.pair (.int .i64) (.slice (.int .u8)))))))) l))), (3, oc (zi 0)), (4, oc (zi 0))], [], [], 0⟩ [] (by kernel_rfl) trivial ?_
  obtain ⟨w11, cw11, h⟩ := bindS h
  refine f39_broughamlaw25_great_L3_ok n l 0 0 w11 cw11 _ ?_
  rcases w11 with e12 | e13
  · have h := Option.some.inj h
    subst h
    rfl
  · show At Tryd.prog Tryd.f39 0 8 ⟨[(0, oc (.d (.sl (.pair (.int .i64) (.pair (.int .i64) (.pair (.int .i64) (.pair (.int .i64) (.pair (.int .i64) (.pair (.int .i64) (.slice (.int .u8)))))))) e13)))], [], [], 0⟩ _
    have h := Option.some.inj h
    subst h
    exact At.fin hm ht ⟨[], [], [], [2], []⟩ [] (by kernel_rfl) trivial
/-! brougham/num.Pieces -/
def f15_num_Pieces_in (s : ByteArray) : Inn := ⟨[.c (.d (.str s))], [], [], 0⟩
def f15_num_Pieces_out (r : List ByteArray) : Out := ⟨oc (.own 0 .str r), [(0, ⟨9, 0⟩)], [], 1⟩
def f15_num_Pieces_L4 : Nat → (List ByteArray) → (List ByteArray) → Int → Int → Option (List ByteArray)
  | 0, _, _, _, _ => none
  | n + 1, out, t13, t14, t15 =>
    if (decide ((t15 : Int) < t14)) = true then
      if (0 : Int) ≤ t15 ∧ t15 < (((t13).length : Nat) : Int) then
      if (!((t13.getD t15.toNat ByteArray.empty).toList == (⟨#[]⟩ : ByteArray).toList)) = true then
        if out.length + [(t13.getD t15.toNat ByteArray.empty)].length ≤ maxLen ∧ (out.length + [(t13.getD t15.toNat ByteArray.empty)].length) * 16 ≤ 140737488355328 then
        f15_num_Pieces_L4 n (out ++ [(t13.getD t15.toNat ByteArray.empty)]) t13 t14 (IntKind.wrap .i64 (t15 + 1))
        else none
      else
        f15_num_Pieces_L4 n out t13 t14 (IntKind.wrap .i64 (t15 + 1))
      else none
    else
      some (out)
def f15_num_Pieces_L4_k (e : List ByteArray) (o : Out) : Prop := At Tryd.prog Tryd.f15 0 9 ⟨[(3, oc (.own 0 .str e))], [(0, some ⟨9, 0⟩)], [], 1⟩ o
theorem f15_num_Pieces_L4_ok (n : Nat) : ∀ (out : List ByteArray) (t13 : List ByteArray) (t14 : Int) (t15 : Int) (w : List ByteArray) (h : f15_num_Pieces_L4 n out t13 t14 t15 = some w) (o : Out) (hk : f15_num_Pieces_L4_k w o), At Tryd.prog Tryd.f15 0 4 ⟨[(3, oc (.own 0 .str out)), (13, oc (.d (.sl .str t13))), (14, oc (zi t14)), (15, oc (zi t15))], [(0, some ⟨9, 0⟩)], [], 1⟩ o := by
  induction n with
  | zero => intro out t13 t14 t15 w h; rw [f15_num_Pieces_L4] at h; cases h
  | succ n ih =>
    intro out t13 t14 t15 w h o hk
    rw [f15_num_Pieces_L4] at h
    rcases iteS h with ⟨b40_e0, h⟩ | ⟨b40_e0, h⟩
    · refine At.step hm ht ⟨[], [true], [], [3, 13, 14, 15], [0]⟩ 5 ⟨[(3, oc (.own 0 .str out)), (13, oc (.d (.sl .str t13))), (14, oc (zi t14)), (15, oc (zi t15))], [(0, some ⟨9, 0⟩)], [], 1⟩ [(decide ((t15 : Int) < t14)) = true] (by kernel_rfl) ⟨b40_e0, trivial⟩ ?_
      obtain ⟨g41_0, h⟩ := ifS h
      refine At.step hm ht ⟨[], [], [], [3, 5, 13, 14, 15], [0]⟩ 6 ⟨[(3, oc (.own 0 .str out)), (5, oc (.d (.str (t13.getD t15.toNat ByteArray.empty)))), (13, oc (.d (.sl .str t13))), (14, oc (zi t14)), (15, oc (zi t15))], [(0, some ⟨9, 0⟩)], [], 1⟩ [(0 : Int) ≤ t15 ∧ t15 < (((t13).length : Nat) : Int)] (by kernel_rfl) ⟨g41_0, trivial⟩ ?_
      rcases iteS h with ⟨b42_e0, h⟩ | ⟨b42_e0, h⟩
      · refine At.step hm ht ⟨[], [true], [], [3, 5, 13, 14, 15], [0]⟩ 7 ⟨[(3, oc (.own 0 .str out)), (5, oc (.d (.str (t13.getD t15.toNat ByteArray.empty)))), (13, oc (.d (.sl .str t13))), (14, oc (zi t14)), (15, oc (zi t15))], [(0, some ⟨9, 0⟩)], [], 1⟩ [(!((t13.getD t15.toNat ByteArray.empty).toList == (⟨#[]⟩ : ByteArray).toList)) = true] (by kernel_rfl) ⟨b42_e0, trivial⟩ ?_
        obtain ⟨g43_0, h⟩ := ifS h
        refine At.step hm ht ⟨[], [], [], [3, 13, 14, 15], [4]⟩ 8 ⟨[(3, oc (.own 0 .str (out ++ [(t13.getD t15.toNat ByteArray.empty)]))), (13, oc (.d (.sl .str t13))), (14, oc (zi t14)), (15, oc (zi t15))], [(0, some ⟨9, 0⟩)], [], 1⟩ [out.length + [(t13.getD t15.toNat ByteArray.empty)].length ≤ maxLen ∧ (out.length + [(t13.getD t15.toNat ByteArray.empty)].length) * 16 ≤ 140737488355328] (by kernel_rfl) ⟨g43_0, trivial⟩ ?_
        refine At.step hm ht ⟨[], [], [], [3, 13, 14, 15], [0]⟩ 4 ⟨[(3, oc (.own 0 .str (out ++ [(t13.getD t15.toNat ByteArray.empty)]))), (13, oc (.d (.sl .str t13))), (14, oc (zi t14)), (15, oc (zi (IntKind.wrap .i64 (t15 + 1))))], [(0, some ⟨9, 0⟩)], [], 1⟩ [] (by kernel_rfl) trivial ?_
        exact ih (out ++ [(t13.getD t15.toNat ByteArray.empty)]) t13 t14 (IntKind.wrap .i64 (t15 + 1)) w h o hk
      · refine At.step hm ht ⟨[], [false], [], [3, 13, 14, 15], [0]⟩ 8 ⟨[(3, oc (.own 0 .str out)), (13, oc (.d (.sl .str t13))), (14, oc (zi t14)), (15, oc (zi t15))], [(0, some ⟨9, 0⟩)], [], 1⟩ [(!((t13.getD t15.toNat ByteArray.empty).toList == (⟨#[]⟩ : ByteArray).toList)) = false] (by kernel_rfl) ⟨b42_e0, trivial⟩ ?_
        refine At.step hm ht ⟨[], [], [], [3, 13, 14, 15], [0]⟩ 4 ⟨[(3, oc (.own 0 .str out)), (13, oc (.d (.sl .str t13))), (14, oc (zi t14)), (15, oc (zi (IntKind.wrap .i64 (t15 + 1))))], [(0, some ⟨9, 0⟩)], [], 1⟩ [] (by kernel_rfl) trivial ?_
        exact ih out t13 t14 (IntKind.wrap .i64 (t15 + 1)) w h o hk
    · refine At.step hm ht ⟨[], [false], [], [3], [0]⟩ 9 ⟨[(3, oc (.own 0 .str out))], [(0, some ⟨9, 0⟩)], [], 1⟩ [(decide ((t15 : Int) < t14)) = false] (by kernel_rfl) ⟨b40_e0, trivial⟩ ?_
      have h := Option.some.inj h
      subst h
      exact hk
def f15_num_Pieces (n : Nat) (s : ByteArray) : Option (List ByteArray) :=
  (f49_strings_Cut s (⟨#[35]⟩ : ByteArray)).bind fun r37_0 =>
  (f45_strings_Split r37_0.1 (⟨#[32]⟩ : ByteArray)).bind fun r39_0 =>
  (f15_num_Pieces_L4 n [] r39_0 ((r39_0.length : Nat) : Int) 0).bind fun w46 =>
  some w46
theorem f15_num_Pieces_ok (n : Nat) (s : ByteArray) (r : List ByteArray) (h : f15_num_Pieces n s = some r) : FnOK Tryd.prog 15 (f15_num_Pieces_in s) (f15_num_Pieces_out r) := by
  unfold f15_num_Pieces at h
  refine At.fn (r := 0) Tryd.func15 rfl (by kernel_rfl) rfl rfl (by kernel_rfl) ?_
  show At Tryd.prog Tryd.f15 0 0 ⟨[(0, oc (.d (.str s)))], [], [], 0⟩ _
  refine At.step hm ht ⟨[], [], [], [0], []⟩ 1 ⟨[(0, oc (.d (.str s)))], [], [], 0⟩ [] (by kernel_rfl) trivial ?_
  obtain ⟨r37_0, cr37_0, h⟩ := bindS h
  refine At.step hm ht ⟨[(1, .call [] [] (f49_strings_Cut_out r37_0))], [], [], [0], []⟩ 2 ⟨[(0, oc (.d (.str r37_0.1)))], [], [], 0⟩ [FnOK Tryd.prog 49 (f49_strings_Cut_in s (⟨#[35]⟩ : ByteArray)) (f49_strings_Cut_out r37_0)] (by kernel_rfl) ⟨(f49_strings_Cut_ok s (⟨#[35]⟩ : ByteArray) r37_0 cr37_0), trivial⟩ ?_
  refine At.step hm ht ⟨[], [], [], [0, 3], []⟩ 3 ⟨[(0, oc (.d (.str r37_0.1))), (3, oc (.d (.sl .unit [])))], [], [], 0⟩ [] (by kernel_rfl) trivial ?_
  obtain ⟨r39_0, cr39_0, h⟩ := bindS h
  refine At.step hm ht ⟨[(1, .call [] [] (f45_strings_Split_out r39_0))], [], [.nil false 3 0 .str (some 9)], [3, 13, 14, 15], [3]⟩ 4 ⟨[(3, oc (.own 0 .str [])), (13, oc (.d (.sl .str r39_0))), (14, oc (zi ((r39_0.length : Nat) : Int))), (15, oc (zi 0))], [(0, some ⟨9, 0⟩)], [], 1⟩ [FnOK Tryd.prog 45 (f45_strings_Split_in r37_0.1 (⟨#[32]⟩ : ByteArray)) (f45_strings_Split_out r39_0)] (by kernel_rfl) ⟨(f45_strings_Split_ok r37_0.1 (⟨#[32]⟩ : ByteArray) r39_0 cr39_0), trivial⟩ ?_
  obtain ⟨w46, cw46, h⟩ := bindS h
  refine f15_num_Pieces_L4_ok n [] r39_0 ((r39_0.length : Nat) : Int) 0 w46 cw46 _ ?_
  show At Tryd.prog Tryd.f15 0 9 ⟨[(3, oc (.own 0 .str w46))], [(0, some ⟨9, 0⟩)], [], 1⟩ _
  have h := Option.some.inj h
  subst h
  exact At.fin hm ht ⟨[], [], [], [2], [0]⟩ [] (by kernel_rfl) trivial
/-! brougham/script.shapes -/
def f70_script_shapes_in : Inn := ⟨[], [], [], 0⟩
def f70_script_shapes_out (r : ByteArray × ByteArray × ByteArray × ByteArray × ByteArray × ByteArray × ByteArray × ByteArray × ByteArray × ByteArray × ByteArray × ByteArray × ByteArray × ByteArray × ByteArray × ByteArray × ByteArray × ByteArray × ByteArray × ByteArray × ByteArray × ByteArray × ByteArray × ByteArray × ByteArray × ByteArray × ByteArray × ByteArray × ByteArray × ByteArray × ByteArray × ByteArray × ByteArray × ByteArray) : Out := ⟨.one (.agg [.d (.str r.1), .d (.str r.2.1), .d (.str r.2.2.1), .d (.str r.2.2.2.1), .d (.str r.2.2.2.2.1), .d (.str r.2.2.2.2.2.1), .d (.str r.2.2.2.2.2.2.1), .d (.str r.2.2.2.2.2.2.2.1), .d (.str r.2.2.2.2.2.2.2.2.1), .d (.str r.2.2.2.2.2.2.2.2.2.1), .d (.str r.2.2.2.2.2.2.2.2.2.2.1), .d (.str r.2.2.2.2.2.2.2.2.2.2.2.1), .d (.str r.2.2.2.2.2.2.2.2.2.2.2.2.1), .d (.str r.2.2.2.2.2.2.2.2.2.2.2.2.2.1), .d (.str r.2.2.2.2.2.2.2.2.2.2.2.2.2.2.1), .d (.str r.2.2.2.2.2.2.2.2.2.2.2.2.2.2.2.1), .d (.str r.2.2.2.2.2.2.2.2.2.2.2.2.2.2.2.2.1), .d (.str r.2.2.2.2.2.2.2.2.2.2.2.2.2.2.2.2.2.1), .d (.str r.2.2.2.2.2.2.2.2.2.2.2.2.2.2.2.2.2.2.1), .d (.str r.2.2.2.2.2.2.2.2.2.2.2.2.2.2.2.2.2.2.2.1), .d (.str r.2.2.2.2.2.2.2.2.2.2.2.2.2.2.2.2.2.2.2.2.1), .d (.str r.2.2.2.2.2.2.2.2.2.2.2.2.2.2.2.2.2.2.2.2.2.1), .d (.str r.2.2.2.2.2.2.2.2.2.2.2.2.2.2.2.2.2.2.2.2.2.2.1), .d (.str r.2.2.2.2.2.2.2.2.2.2.2.2.2.2.2.2.2.2.2.2.2.2.2.1), .d (.str r.2.2.2.2.2.2.2.2.2.2.2.2.2.2.2.2.2.2.2.2.2.2.2.2.1), .d (.str r.2.2.2.2.2.2.2.2.2.2.2.2.2.2.2.2.2.2.2.2.2.2.2.2.2.1), .d (.str r.2.2.2.2.2.2.2.2.2.2.2.2.2.2.2.2.2.2.2.2.2.2.2.2.2.2.1), .d (.str r.2.2.2.2.2.2.2.2.2.2.2.2.2.2.2.2.2.2.2.2.2.2.2.2.2.2.2.1), .d (.str r.2.2.2.2.2.2.2.2.2.2.2.2.2.2.2.2.2.2.2.2.2.2.2.2.2.2.2.2.1), .d (.str r.2.2.2.2.2.2.2.2.2.2.2.2.2.2.2.2.2.2.2.2.2.2.2.2.2.2.2.2.2.1), .d (.str r.2.2.2.2.2.2.2.2.2.2.2.2.2.2.2.2.2.2.2.2.2.2.2.2.2.2.2.2.2.2.1), .d (.str r.2.2.2.2.2.2.2.2.2.2.2.2.2.2.2.2.2.2.2.2.2.2.2.2.2.2.2.2.2.2.2.1), .d (.str r.2.2.2.2.2.2.2.2.2.2.2.2.2.2.2.2.2.2.2.2.2.2.2.2.2.2.2.2.2.2.2.2.1), .d (.str r.2.2.2.2.2.2.2.2.2.2.2.2.2.2.2.2.2.2.2.2.2.2.2.2.2.2.2.2.2.2.2.2.2)]), [], [(0, [.d (.str r.1), .d (.str r.2.1), .d (.str r.2.2.1), .d (.str r.2.2.2.1), .d (.str r.2.2.2.2.1), .d (.str r.2.2.2.2.2.1), .d (.str r.2.2.2.2.2.2.1), .d (.str r.2.2.2.2.2.2.2.1), .d (.str r.2.2.2.2.2.2.2.2.1), .d (.str r.2.2.2.2.2.2.2.2.2.1), .d (.str r.2.2.2.2.2.2.2.2.2.2.1), .d (.str r.2.2.2.2.2.2.2.2.2.2.2.1), .d (.str r.2.2.2.2.2.2.2.2.2.2.2.2.1), .d (.str r.2.2.2.2.2.2.2.2.2.2.2.2.2.1), .d (.str r.2.2.2.2.2.2.2.2.2.2.2.2.2.2.1), .d (.str r.2.2.2.2.2.2.2.2.2.2.2.2.2.2.2.1), .d (.str r.2.2.2.2.2.2.2.2.2.2.2.2.2.2.2.2.1), .d (.str r.2.2.2.2.2.2.2.2.2.2.2.2.2.2.2.2.2.1), .d (.str r.2.2.2.2.2.2.2.2.2.2.2.2.2.2.2.2.2.2.1), .d (.str r.2.2.2.2.2.2.2.2.2.2.2.2.2.2.2.2.2.2.2.1), .d (.str r.2.2.2.2.2.2.2.2.2.2.2.2.2.2.2.2.2.2.2.2.1), .d (.str r.2.2.2.2.2.2.2.2.2.2.2.2.2.2.2.2.2.2.2.2.2.1), .d (.str r.2.2.2.2.2.2.2.2.2.2.2.2.2.2.2.2.2.2.2.2.2.2.1), .d (.str r.2.2.2.2.2.2.2.2.2.2.2.2.2.2.2.2.2.2.2.2.2.2.2.1), .d (.str r.2.2.2.2.2.2.2.2.2.2.2.2.2.2.2.2.2.2.2.2.2.2.2.2.1), .d (.str r.2.2.2.2.2.2.2.2.2.2.2.2.2.2.2.2.2.2.2.2.2.2.2.2.2.1), .d (.str r.2.2.2.2.2.2.2.2.2.2.2.2.2.2.2.2.2.2.2.2.2.2.2.2.2.2.1), .d (.str r.2.2.2.2.2.2.2.2.2.2.2.2.2.2.2.2.2.2.2.2.2.2.2.2.2.2.2.1), .d (.str r.2.2.2.2.2.2.2.2.2.2.2.2.2.2.2.2.2.2.2.2.2.2.2.2.2.2.2.2.1), .d (.str r.2.2.2.2.2.2.2.2.2.2.2.2.2.2.2.2.2.2.2.2.2.2.2.2.2.2.2.2.2.1), .d (.str r.2.2.2.2.2.2.2.2.2.2.2.2.2.2.2.2.2.2.2.2.2.2.2.2.2.2.2.2.2.2.1), .d (.str r.2.2.2.2.2.2.2.2.2.2.2.2.2.2.2.2.2.2.2.2.2.2.2.2.2.2.2.2.2.2.2.1), .d (.str r.2.2.2.2.2.2.2.2.2.2.2.2.2.2.2.2.2.2.2.2.2.2.2.2.2.2.2.2.2.2.2.2.1), .d (.str r.2.2.2.2.2.2.2.2.2.2.2.2.2.2.2.2.2.2.2.2.2.2.2.2.2.2.2.2.2.2.2.2.2)])], 1⟩
def f70_script_shapes : Option (ByteArray × ByteArray × ByteArray × ByteArray × ByteArray × ByteArray × ByteArray × ByteArray × ByteArray × ByteArray × ByteArray × ByteArray × ByteArray × ByteArray × ByteArray × ByteArray × ByteArray × ByteArray × ByteArray × ByteArray × ByteArray × ByteArray × ByteArray × ByteArray × ByteArray × ByteArray × ByteArray × ByteArray × ByteArray × ByteArray × ByteArray × ByteArray × ByteArray × ByteArray) :=
  some ((⟨#[]⟩ : ByteArray), (⟨#[]⟩ : ByteArray), (⟨#[108, 105, 115, 116, 101, 110]⟩ : ByteArray), (⟨#[104, 110]⟩ : ByteArray), (⟨#[99, 111, 110, 110, 101, 99, 116]⟩ : ByteArray), (⟨#[104, 110, 112, 119]⟩ : ByteArray), (⟨#[97, 99, 99, 101, 112, 116]⟩ : ByteArray), (⟨#[104, 110]⟩ : ByteArray), (⟨#[119, 114, 105, 116, 101]⟩ : ByteArray), (⟨#[104, 110, 98]⟩ : ByteArray), (⟨#[114, 101, 97, 100]⟩ : ByteArray), (⟨#[104, 110, 107]⟩ : ByteArray), (⟨#[99, 108, 111, 115, 101]⟩ : ByteArray), (⟨#[104, 110]⟩ : ByteArray), (⟨#[97, 98, 111, 114, 116]⟩ : ByteArray), (⟨#[104, 110]⟩ : ByteArray), (⟨#[114, 101, 108, 101, 97, 115, 101]⟩ : ByteArray), (⟨#[104, 110]⟩ : ByteArray), (⟨#[111, 102, 102, 101, 114]⟩ : ByteArray), (⟨#[104, 110, 119]⟩ : ByteArray), (⟨#[116, 105, 99, 107]⟩ : ByteArray), (⟨#[107]⟩ : ByteArray), (⟨#[100, 101, 108, 105, 118, 101, 114]⟩ : ByteArray), (⟨#[107]⟩ : ByteArray), (⟨#[100, 114, 111, 112]⟩ : ByteArray), (⟨#[107]⟩ : ByteArray), (⟨#[99, 111, 112, 121]⟩ : ByteArray), (⟨#[107]⟩ : ByteArray), (⟨#[114, 101, 112, 108, 97, 121]⟩ : ByteArray), (⟨#[119, 107]⟩ : ByteArray), (⟨#[114, 101, 102, 108, 101, 99, 116]⟩ : ByteArray), (⟨#[119, 107]⟩ : ByteArray), (⟨#[105, 110, 106, 101, 99, 116]⟩ : ByteArray), (⟨#[104, 119, 98]⟩ : ByteArray))
theorem f70_script_shapes_ok (r : ByteArray × ByteArray × ByteArray × ByteArray × ByteArray × ByteArray × ByteArray × ByteArray × ByteArray × ByteArray × ByteArray × ByteArray × ByteArray × ByteArray × ByteArray × ByteArray × ByteArray × ByteArray × ByteArray × ByteArray × ByteArray × ByteArray × ByteArray × ByteArray × ByteArray × ByteArray × ByteArray × ByteArray × ByteArray × ByteArray × ByteArray × ByteArray × ByteArray × ByteArray) (h : f70_script_shapes = some r) : FnOK Tryd.prog 70 (f70_script_shapes_in) (f70_script_shapes_out r) := by
  unfold f70_script_shapes at h
  refine At.fn (r := 0) Tryd.func70 rfl (by kernel_rfl) rfl rfl (by kernel_rfl) ?_
  show At Tryd.prog Tryd.f70 0 0 ⟨[], [], [], 0⟩ _
  refine At.step hm ht ⟨[], [], [], [0], [0]⟩ 1 ⟨[(0, oc (.ptr 0 0))], [], [(0, [.d (.str (⟨#[]⟩ : ByteArray)), .d (.str (⟨#[]⟩ : ByteArray)), .d (.str (⟨#[]⟩ : ByteArray)), .d (.str (⟨#[]⟩ : ByteArray)), .d (.str (⟨#[]⟩ : ByteArray)), .d (.str (⟨#[]⟩ : ByteArray)), .d (.str (⟨#[]⟩ : ByteArray)), .d (.str (⟨#[]⟩ : ByteArray)), .d (.str (⟨#[]⟩ : ByteArray)), .d (.str (⟨#[]⟩ : ByteArray)), .d (.str (⟨#[]⟩ : ByteArray)), .d (.str (⟨#[]⟩ : ByteArray)), .d (.str (⟨#[]⟩ : ByteArray)), .d (.str (⟨#[]⟩ : ByteArray)), .d (.str (⟨#[]⟩ : ByteArray)), .d (.str (⟨#[]⟩ : ByteArray)), .d (.str (⟨#[]⟩ : ByteArray)), .d (.str (⟨#[]⟩ : ByteArray)), .d (.str (⟨#[]⟩ : ByteArray)), .d (.str (⟨#[]⟩ : ByteArray)), .d (.str (⟨#[]⟩ : ByteArray)), .d (.str (⟨#[]⟩ : ByteArray)), .d (.str (⟨#[]⟩ : ByteArray)), .d (.str (⟨#[]⟩ : ByteArray)), .d (.str (⟨#[]⟩ : ByteArray)), .d (.str (⟨#[]⟩ : ByteArray)), .d (.str (⟨#[]⟩ : ByteArray)), .d (.str (⟨#[]⟩ : ByteArray)), .d (.str (⟨#[]⟩ : ByteArray)), .d (.str (⟨#[]⟩ : ByteArray)), .d (.str (⟨#[]⟩ : ByteArray)), .d (.str (⟨#[]⟩ : ByteArray)), .d (.str (⟨#[]⟩ : ByteArray)), .d (.str (⟨#[]⟩ : ByteArray))])], 1⟩ [] (by kernel_rfl) trivial ?_
  have h := Option.some.inj h
  subst h
  exact At.fin hm ht ⟨[], [], [], [0], [0]⟩ [0 + 34 ≤ 34] (by kernel_rfl) ⟨(by decide), trivial⟩
/-! brougham/script.part -/
def f71_script_part_in (c : Int) (s_0 : Int) (s_1 : Int) (s_2 : Int) (s_3 : Int) (s_4 : Int) (s_5 : Int) : Inn := ⟨[.c (.ptr 0 0), .c (.d (.int .u8 c))], [], [(0, [zi s_0, zi s_1, zi s_2, zi s_3, zi s_4, zi s_5, .d (.sl .unit [])])], 1⟩
def f71_script_part_out (r : (Int × Int × Int × Int × Int × Int) ⊕ (Int × Int × Int × Int × Int × Int) ⊕ (Int × Int × Int × Int × Int × Int) ⊕ (Int × Int × Int × Int × Int × Int) ⊕ (Int × Int × Int × Int × Int × Int) ⊕ (Int × Int × Int × Int × Int × Int)) : Out := match r with
  | .inl e => ⟨oc (.ptr 0 1), [], [(0, [zi e.1, zi e.2.1, zi e.2.2.1, zi e.2.2.2.1, zi e.2.2.2.2.1, zi e.2.2.2.2.2, .d (.sl .unit [])])], 1⟩
  | .inr (.inl e) => ⟨oc (.ptr 0 2), [], [(0, [zi e.1, zi e.2.1, zi e.2.2.1, zi e.2.2.2.1, zi e.2.2.2.2.1, zi e.2.2.2.2.2, .d (.sl .unit [])])], 1⟩
  | .inr (.inr (.inl e)) => ⟨oc (.ptr 0 3), [], [(0, [zi e.1, zi e.2.1, zi e.2.2.1, zi e.2.2.2.1, zi e.2.2.2.2.1, zi e.2.2.2.2.2, .d (.sl .unit [])])], 1⟩
  | .inr (.inr (.inr (.inl e))) => ⟨oc (.ptr 0 4), [], [(0, [zi e.1, zi e.2.1, zi e.2.2.1, zi e.2.2.2.1, zi e.2.2.2.2.1, zi e.2.2.2.2.2, .d (.sl .unit [])])], 1⟩
  | .inr (.inr (.inr (.inr (.inl e)))) => ⟨oc (.ptr 0 5), [], [(0, [zi e.1, zi e.2.1, zi e.2.2.1, zi e.2.2.2.1, zi e.2.2.2.2.1, zi e.2.2.2.2.2, .d (.sl .unit [])])], 1⟩
  | .inr (.inr (.inr (.inr (.inr e)))) => ⟨oc (.d (.nilP)), [], [(0, [zi e.1, zi e.2.1, zi e.2.2.1, zi e.2.2.2.1, zi e.2.2.2.2.1, zi e.2.2.2.2.2, .d (.sl .unit [])])], 1⟩
def f71_script_part (c : Int) (s_0 : Int) (s_1 : Int) (s_2 : Int) (s_3 : Int) (s_4 : Int) (s_5 : Int) : Option ((Int × Int × Int × Int × Int × Int) ⊕ (Int × Int × Int × Int × Int × Int) ⊕ (Int × Int × Int × Int × Int × Int) ⊕ (Int × Int × Int × Int × Int × Int) ⊕ (Int × Int × Int × Int × Int × Int) ⊕ (Int × Int × Int × Int × Int × Int)) :=
  if ((c : Int) == 104) = true then
    some (.inl (s_0, s_1, s_2, s_3, s_4, s_5))
  else
    if ((c : Int) == 110) = true then
      some (.inr (.inl (s_0, s_1, s_2, s_3, s_4, s_5)))
    else
      if ((c : Int) == 112) = true then
        some (.inr (.inr (.inl (s_0, s_1, s_2, s_3, s_4, s_5))))
      else
        if ((c : Int) == 119) = true then
          some (.inr (.inr (.inr (.inl (s_0, s_1, s_2, s_3, s_4, s_5)))))
        else
          if ((c : Int) == 107) = true then
            some (.inr (.inr (.inr (.inr (.inl (s_0, s_1, s_2, s_3, s_4, s_5))))))
          else
            some (.inr (.inr (.inr (.inr (.inr ((s_0, s_1, s_2, s_3, s_4, s_5)))))))
theorem f71_script_part_ok (c : Int) (s_0 : Int) (s_1 : Int) (s_2 : Int) (s_3 : Int) (s_4 : Int) (s_5 : Int) (r : (Int × Int × Int × Int × Int × Int) ⊕ (Int × Int × Int × Int × Int × Int) ⊕ (Int × Int × Int × Int × Int × Int) ⊕ (Int × Int × Int × Int × Int × Int) ⊕ (Int × Int × Int × Int × Int × Int) ⊕ (Int × Int × Int × Int × Int × Int)) (h : f71_script_part c s_0 s_1 s_2 s_3 s_4 s_5 = some r) : FnOK Tryd.prog 71 (f71_script_part_in c s_0 s_1 s_2 s_3 s_4 s_5) (f71_script_part_out r) := by
  unfold f71_script_part at h
  refine At.fn (r := 0) Tryd.func71 rfl (by kernel_rfl) rfl (by rcases r with _ | _ | _ | _ | _ | _ <;> rfl) (by kernel_rfl) ?_
  show At Tryd.prog Tryd.f71 1 0 ⟨[(0, oc (.ptr 0 0)), (1, oc (.d (.int .u8 c)))], [], [(0, [zi s_0, zi s_1, zi s_2, zi s_3, zi s_4, zi s_5, .d (.sl .unit [])])], 1⟩ _
  refine At.step hm ht ⟨[], [], [], [0, 1], [0]⟩ 1 ⟨[(0, oc (.ptr 0 0)), (1, oc (.d (.int .u8 c)))], [], [(0, [zi s_0, zi s_1, zi s_2, zi s_3, zi s_4, zi s_5, .d (.sl .unit [])])], 1⟩ [] (by kernel_rfl) trivial ?_
  refine At.step hm ht ⟨[], [], [], [0, 5], [0]⟩ 2 ⟨[(0, oc (.ptr 0 0)), (5, oc (.d (.int .u8 c)))], [], [(0, [zi s_0, zi s_1, zi s_2, zi s_3, zi s_4, zi s_5, .d (.sl .unit [])])], 1⟩ [] (by kernel_rfl) trivial ?_
  rcases iteS h with ⟨b70_e0, h⟩ | ⟨b70_e0, h⟩
  · refine At.step hm ht ⟨[], [true], [], [0], [0]⟩ 3 ⟨[(0, oc (.ptr 0 0))], [], [(0, [zi s_0, zi s_1, zi s_2, zi s_3, zi s_4, zi s_5, .d (.sl .unit [])])], 1⟩ [((c : Int) == 104) = true] (by kernel_rfl) ⟨b70_e0, trivial⟩ ?_
    have h := Option.some.inj h
    subst h
    exact At.fin hm ht ⟨[], [], [], [4], [0]⟩ [] (by kernel_rfl) trivial
  · refine At.step hm ht ⟨[], [false], [], [0, 5], [0]⟩ 4 ⟨[(0, oc (.ptr 0 0)), (5, oc (.d (.int .u8 c)))], [], [(0, [zi s_0, zi s_1, zi s_2, zi s_3, zi s_4, zi s_5, .d (.sl .unit [])])], 1⟩ [((c : Int) == 104) = false] (by kernel_rfl) ⟨b70_e0, trivial⟩ ?_
    rcases iteS h with ⟨b72_e0, h⟩ | ⟨b72_e0, h⟩
    · refine At.step hm ht ⟨[], [true], [], [0], [0]⟩ 5 ⟨[(0, oc (.ptr 0 0))], [], [(0, [zi s_0, zi s_1, zi s_2, zi s_3, zi s_4, zi s_5, .d (.sl .unit [])])], 1⟩ [((c : Int) == 110) = true] (by kernel_rfl) ⟨b72_e0, trivial⟩ ?_
      have h := Option.some.inj h
      subst h
      exact At.fin hm ht ⟨[], [], [], [4], [0]⟩ [] (by kernel_rfl) trivial
    · refine At.step hm ht ⟨[], [false], [], [0, 5], [0]⟩ 6 ⟨[(0, oc (.ptr 0 0)), (5, oc (.d (.int .u8 c)))], [], [(0, [zi s_0, zi s_1, zi s_2, zi s_3, zi s_4, zi s_5, .d (.sl .unit [])])], 1⟩ [((c : Int) == 110) = false] (by kernel_rfl) ⟨b72_e0, trivial⟩ ?_
      rcases iteS h with ⟨b74_e0, h⟩ | ⟨b74_e0, h⟩
      · refine At.step hm ht ⟨[], [true], [], [0], [0]⟩ 7 ⟨[(0, oc (.ptr 0 0))], [], [(0, [zi s_0, zi s_1, zi s_2, zi s_3, zi s_4, zi s_5, .d (.sl .unit [])])], 1⟩ [((c : Int) == 112) = true] (by kernel_rfl) ⟨b74_e0, trivial⟩ ?_
        have h := Option.some.inj h
        subst h
        exact At.fin hm ht ⟨[], [], [], [4], [0]⟩ [] (by kernel_rfl) trivial
      · refine At.step hm ht ⟨[], [false], [], [0, 5], [0]⟩ 8 ⟨[(0, oc (.ptr 0 0)), (5, oc (.d (.int .u8 c)))], [], [(0, [zi s_0, zi s_1, zi s_2, zi s_3, zi s_4, zi s_5, .d (.sl .unit [])])], 1⟩ [((c : Int) == 112) = false] (by kernel_rfl) ⟨b74_e0, trivial⟩ ?_
        rcases iteS h with ⟨b76_e0, h⟩ | ⟨b76_e0, h⟩
        · refine At.step hm ht ⟨[], [true], [], [0], [0]⟩ 9 ⟨[(0, oc (.ptr 0 0))], [], [(0, [zi s_0, zi s_1, zi s_2, zi s_3, zi s_4, zi s_5, .d (.sl .unit [])])], 1⟩ [((c : Int) == 119) = true] (by kernel_rfl) ⟨b76_e0, trivial⟩ ?_
          have h := Option.some.inj h
          subst h
          exact At.fin hm ht ⟨[], [], [], [4], [0]⟩ [] (by kernel_rfl) trivial
        · refine At.step hm ht ⟨[], [false], [], [0, 5], [0]⟩ 10 ⟨[(0, oc (.ptr 0 0)), (5, oc (.d (.int .u8 c)))], [], [(0, [zi s_0, zi s_1, zi s_2, zi s_3, zi s_4, zi s_5, .d (.sl .unit [])])], 1⟩ [((c : Int) == 119) = false] (by kernel_rfl) ⟨b76_e0, trivial⟩ ?_
          rcases iteS h with ⟨b78_e0, h⟩ | ⟨b78_e0, h⟩
          · refine At.step hm ht ⟨[], [true], [], [0], [0]⟩ 11 ⟨[(0, oc (.ptr 0 0))], [], [(0, [zi s_0, zi s_1, zi s_2, zi s_3, zi s_4, zi s_5, .d (.sl .unit [])])], 1⟩ [((c : Int) == 107) = true] (by kernel_rfl) ⟨b78_e0, trivial⟩ ?_
            have h := Option.some.inj h
            subst h
            exact At.fin hm ht ⟨[], [], [], [4], [0]⟩ [] (by kernel_rfl) trivial
          · refine At.step hm ht ⟨[], [false], [], [], [0]⟩ 12 ⟨[], [], [(0, [zi s_0, zi s_1, zi s_2, zi s_3, zi s_4, zi s_5, .d (.sl .unit [])])], 1⟩ [((c : Int) == 107) = false] (by kernel_rfl) ⟨b78_e0, trivial⟩ ?_
            have h := Option.some.inj h
            subst h
            exact At.fin hm ht ⟨[], [], [], [4], [0]⟩ [] (by kernel_rfl) trivial
/-! brougham/num.Unhex -/
def f77_num_Unhex_in (s : ByteArray) : Inn := ⟨[.c (.d (.str s))], [], [], 0⟩
def f77_num_Unhex_out (r : List Int × Int) : Out := ⟨.tup [.c (.own 0 (.int .u8) r.1), .c (zi r.2)], [(0, ⟨5, 0⟩)], [], 1⟩
def f77_num_Unhex_L5 : Nat → ByteArray → (List Int) → Int → Option ((List Int × Int) ⊕ (List Int))
  | 0, _, _, _ => none
  | n + 1, s, b, i =>
    if (decide ((i : Int) < ((s.size : Nat) : Int))) = true then
      if (((IntKind.wrap .i64 (i + 1)) : Int) == ((s.size : Nat) : Int)) = true then
        some (.inl ([], 11))
      else
        if (0 : Int) ≤ i ∧ i < (((s).size : Nat) : Int) then
        (f72_strings_IndexByte (⟨#[48, 49, 50, 51, 52, 53, 54, 55, 56, 57, 97, 98, 99, 100, 101, 102]⟩ : ByteArray) (byteAt s i)).bind fun r150_1 =>
        if (0 : Int) ≤ (IntKind.wrap .i64 (i + 1)) ∧ (IntKind.wrap .i64 (i + 1)) < (((s).size : Nat) : Int) then
        (f72_strings_IndexByte (⟨#[48, 49, 50, 51, 52, 53, 54, 55, 56, 57, 97, 98, 99, 100, 101, 102]⟩ : ByteArray) (byteAt s (IntKind.wrap .i64 (i + 1)))).bind fun r150_3 =>
        if (decide ((r150_1 : Int) < 0)) = true then
          some (.inl ([], 11))
        else
          if (decide ((r150_3 : Int) < 0)) = true then
            some (.inl ([], 11))
          else
            if b.length + [(IntKind.wrap .u8 (bits .or .i64 (IntKind.wrap .i64 (r150_1 * 2 ^ 4)) r150_3))].length ≤ maxLen ∧ (b.length + [(IntKind.wrap .u8 (bits .or .i64 (IntKind.wrap .i64 (r150_1 * 2 ^ 4)) r150_3))].length) * 1 ≤ 140737488355328 then
            f77_num_Unhex_L5 n s (b ++ [(IntKind.wrap .u8 (bits .or .i64 (IntKind.wrap .i64 (r150_1 * 2 ^ 4)) r150_3))]) (IntKind.wrap .i64 (i + 2))
            else none
        else none
        else none
    else
      some (.inr b)
def f77_num_Unhex_L5_k (w : (List Int × Int) ⊕ (List Int)) (o : Out) : Prop := match w with
  | .inl e => o = f77_num_Unhex_out e
  | .inr e => At Tryd.prog Tryd.f77 0 13 ⟨[(4, oc (.own 0 (.int .u8) e))], [(0, some ⟨5, 0⟩)], [], 1⟩ o
theorem f77_num_Unhex_L5_ok (n : Nat) : ∀ (s : ByteArray) (b : List Int) (i : Int) (w : (List Int × Int) ⊕ (List Int)) (h : f77_num_Unhex_L5 n s b i = some w) (o : Out) (hk : f77_num_Unhex_L5_k w o), At Tryd.prog Tryd.f77 0 5 ⟨[(0, oc (.d (.str s))), (4, oc (.own 0 (.int .u8) b)), (5, oc (zi i))], [(0, some ⟨5, 0⟩)], [], 1⟩ o := by
  induction n with
  | zero => intro s b i w h; rw [f77_num_Unhex_L5] at h; cases h
  | succ n ih =>
    intro s b i w h o hk
    rw [f77_num_Unhex_L5] at h
    rcases iteS h with ⟨b147_e0, h⟩ | ⟨b147_e0, h⟩
    · refine At.step hm ht ⟨[], [true], [], [0, 4, 5], [0]⟩ 7 ⟨[(0, oc (.d (.str s))), (4, oc (.own 0 (.int .u8) b)), (5, oc (zi i))], [(0, some ⟨5, 0⟩)], [], 1⟩ [(decide ((i : Int) < ((s.size : Nat) : Int))) = true] (by kernel_rfl) ⟨b147_e0, trivial⟩ ?_
      rcases iteS h with ⟨b148_e0, h⟩ | ⟨b148_e0, h⟩
      · refine At.step hm ht ⟨[], [true], [], [], []⟩ 8 ⟨[], [], [], 0⟩ [(((IntKind.wrap .i64 (i + 1)) : Int) == ((s.size : Nat) : Int)) = true] (by kernel_rfl) ⟨b148_e0, trivial⟩ ?_
        have h := Option.some.inj h
        subst h
        have hk : o = f77_num_Unhex_out ([], 11) := hk
        subst hk
        exact At.fin hm ht ⟨[], [], [.nil false 2 0 (.int .u8) (some 5)], [2, 3], [2]⟩ [] (by kernel_rfl) trivial
      · refine At.step hm ht ⟨[], [false], [], [0, 4, 5], [0]⟩ 9 ⟨[(0, oc (.d (.str s))), (4, oc (.own 0 (.int .u8) b)), (5, oc (zi i))], [(0, some ⟨5, 0⟩)], [], 1⟩ [(((IntKind.wrap .i64 (i + 1)) : Int) == ((s.size : Nat) : Int)) = false] (by kernel_rfl) ⟨b148_e0, trivial⟩ ?_
        obtain ⟨g150_0, h⟩ := ifS h
        obtain ⟨r150_1, cr150_1, h⟩ := bindS h
        obtain ⟨g150_2, h⟩ := ifS h
        obtain ⟨r150_3, cr150_3, h⟩ := bindS h
        refine At.step hm ht ⟨[(3, .call [] [] (f72_strings_IndexByte_out r150_1)), (8, .call [] [] (f72_strings_IndexByte_out r150_3))], [], [], [0, 4, 5, 6, 7], [0]⟩ 10 ⟨[(0, oc (.d (.str s))), (4, oc (.own 0 (.int .u8) b)), (5, oc (zi i)), (6, oc (zi r150_1)), (7, oc (zi r150_3))], [(0, some ⟨5, 0⟩)], [], 1⟩ [(0 : Int) ≤ i ∧ i < (((s).size : Nat) : Int), FnOK Tryd.prog 72 (f72_strings_IndexByte_in (⟨#[48, 49, 50, 51, 52, 53, 54, 55, 56, 57, 97, 98, 99, 100, 101, 102]⟩ : ByteArray) (byteAt s i)) (f72_strings_IndexByte_out r150_1), (0 : Int) ≤ (IntKind.wrap .i64 (i + 1)) ∧ (IntKind.wrap .i64 (i + 1)) < (((s).size : Nat) : Int), FnOK Tryd.prog 72 (f72_strings_IndexByte_in (⟨#[48, 49, 50, 51, 52, 53, 54, 55, 56, 57, 97, 98, 99, 100, 101, 102]⟩ : ByteArray) (byteAt s (IntKind.wrap .i64 (i + 1)))) (f72_strings_IndexByte_out r150_3)] (by kernel_rfl) ⟨g150_0, (f72_strings_IndexByte_ok (⟨#[48, 49, 50, 51, 52, 53, 54, 55, 56, 57, 97, 98, 99, 100, 101, 102]⟩ : ByteArray) (byteAt s i) r150_1 cr150_1), g150_2, (f72_strings_IndexByte_ok (⟨#[48, 49, 50, 51, 52, 53, 54, 55, 56, 57, 97, 98, 99, 100, 101, 102]⟩ : ByteArray) (byteAt s (IntKind.wrap .i64 (i + 1))) r150_3 cr150_3), trivial⟩ ?_
        rcases iteS h with ⟨b151_2, h⟩ | ⟨b151_2, h⟩
        · refine At.step hm ht ⟨[(2, .b true)], [true], [], [], []⟩ 11 ⟨[], [], [], 0⟩ [(decide ((r150_1 : Int) < 0)) = true, true = true] (by kernel_rfl) ⟨b151_2, rfl, trivial⟩ ?_
          have h := Option.some.inj h
          subst h
          have hk : o = f77_num_Unhex_out ([], 11) := hk
          subst hk
          exact At.fin hm ht ⟨[], [], [.nil false 2 0 (.int .u8) (some 5)], [2, 3], [2]⟩ [] (by kernel_rfl) trivial
        · rcases iteS h with ⟨b151_e0, h⟩ | ⟨b151_e0, h⟩
          · refine At.step hm ht ⟨[(2, .b false)], [true], [], [], []⟩ 11 ⟨[], [], [], 0⟩ [(decide ((r150_1 : Int) < 0)) = false, (decide ((r150_3 : Int) < 0)) = true] (by kernel_rfl) ⟨b151_2, b151_e0, trivial⟩ ?_
            have h := Option.some.inj h
            subst h
            have hk : o = f77_num_Unhex_out ([], 11) := hk
            subst hk
            exact At.fin hm ht ⟨[], [], [.nil false 2 0 (.int .u8) (some 5)], [2, 3], [2]⟩ [] (by kernel_rfl) trivial
          · refine At.step hm ht ⟨[(2, .b false)], [false], [], [0, 4, 5, 6, 7], [0]⟩ 12 ⟨[(0, oc (.d (.str s))), (4, oc (.own 0 (.int .u8) b)), (5, oc (zi i)), (6, oc (zi r150_1)), (7, oc (zi r150_3))], [(0, some ⟨5, 0⟩)], [], 1⟩ [(decide ((r150_1 : Int) < 0)) = false, (decide ((r150_3 : Int) < 0)) = false] (by kernel_rfl) ⟨b151_2, b151_e0, trivial⟩ ?_
            obtain ⟨g154_0, h⟩ := ifS h
            refine At.step hm ht ⟨[], [], [], [0, 4, 5], [8]⟩ 6 ⟨[(0, oc (.d (.str s))), (4, oc (.own 0 (.int .u8) (b ++ [(IntKind.wrap .u8 (bits .or .i64 (IntKind.wrap .i64 (r150_1 * 2 ^ 4)) r150_3))]))), (5, oc (zi i))], [(0, some ⟨5, 0⟩)], [], 1⟩ [(0 : Int) ≤ 4, b.length + [(IntKind.wrap .u8 (bits .or .i64 (IntKind.wrap .i64 (r150_1 * 2 ^ 4)) r150_3))].length ≤ maxLen ∧ (b.length + [(IntKind.wrap .u8 (bits .or .i64 (IntKind.wrap .i64 (r150_1 * 2 ^ 4)) r150_3))].length) * 1 ≤ 140737488355328] (by kernel_rfl) ⟨(by decide), g154_0, trivial⟩ ?_
            refine At.step hm ht ⟨[], [], [], [0, 4, 5], [0]⟩ 5 ⟨[(0, oc (.d (.str s))), (4, oc (.own 0 (.int .u8) (b ++ [(IntKind.wrap .u8 (bits .or .i64 (IntKind.wrap .i64 (r150_1 * 2 ^ 4)) r150_3))]))), (5, oc (zi (IntKind.wrap .i64 (i + 2))))], [(0, some ⟨5, 0⟩)], [], 1⟩ [] (by kernel_rfl) trivial ?_
            exact ih s (b ++ [(IntKind.wrap .u8 (bits .or .i64 (IntKind.wrap .i64 (r150_1 * 2 ^ 4)) r150_3))]) (IntKind.wrap .i64 (i + 2)) w h o hk
    · refine At.step hm ht ⟨[], [false], [], [4], [0]⟩ 13 ⟨[(4, oc (.own 0 (.int .u8) b))], [(0, some ⟨5, 0⟩)], [], 1⟩ [(decide ((i : Int) < ((s.size : Nat) : Int))) = false] (by kernel_rfl) ⟨b147_e0, trivial⟩ ?_
      have h := Option.some.inj h
      subst h
      exact hk
def f77_num_Unhex (n : Nat) (s : ByteArray) : Option (List Int × Int) :=
  if (s.toList == (⟨#[45]⟩ : ByteArray).toList) = true then
    some ([], 0)
  else
    (f77_num_Unhex_L5 n s [] 0).bind fun w156 =>
    match w156 with
    | .inl e157 =>
      some (e157.1, e157.2)
    | .inr e158 =>
      if ((((e158.length : Nat) : Int) : Int) == 0) = true then
        some ([], 11)
      else
        some (e158, 0)
theorem f77_num_Unhex_ok (n : Nat) (s : ByteArray) (r : List Int × Int) (h : f77_num_Unhex n s = some r) : FnOK Tryd.prog 77 (f77_num_Unhex_in s) (f77_num_Unhex_out r) := by
  unfold f77_num_Unhex at h
  refine At.fn (r := 0) Tryd.func77 rfl (by kernel_rfl) rfl rfl (by kernel_rfl) ?_
  show At Tryd.prog Tryd.f77 0 0 ⟨[(0, oc (.d (.str s)))], [], [], 0⟩ _
  refine At.step hm ht ⟨[], [], [], [0], []⟩ 1 ⟨[(0, oc (.d (.str s)))], [], [], 0⟩ [] (by kernel_rfl) trivial ?_
  rcases iteS h with ⟨b143_e0, h⟩ | ⟨b143_e0, h⟩
  · refine At.step hm ht ⟨[], [true], [], [], []⟩ 2 ⟨[], [], [], 0⟩ [(s.toList == (⟨#[45]⟩ : ByteArray).toList) = true] (by kernel_rfl) ⟨b143_e0, trivial⟩ ?_
    have h := Option.some.inj h
    subst h
    exact At.fin hm ht ⟨[], [], [.nil false 2 0 (.int .u8) (some 5)], [2, 3], [2]⟩ [] (by kernel_rfl) trivial
  · refine At.step hm ht ⟨[], [false], [], [0], []⟩ 3 ⟨[(0, oc (.d (.str s)))], [], [], 0⟩ [(s.toList == (⟨#[45]⟩ : ByteArray).toList) = false] (by kernel_rfl) ⟨b143_e0, trivial⟩ ?_
    refine At.step hm ht ⟨[], [], [], [0, 4], []⟩ 4 ⟨[(0, oc (.d (.str s))), (4, oc (.d (.sl .unit [])))], [], [], 0⟩ [] (by kernel_rfl) trivial ?_
    refine At.step hm ht ⟨[], [], [.nil false 4 0 (.int .u8) (some 5)], [0, 4, 5], [1]⟩ 5 ⟨[(0, oc (.d (.str s))), (4, oc (.own 0 (.int .u8) [])), (5, oc (zi 0))], [(0, some ⟨5, 0⟩)], [], 1⟩ [] (by kernel_rfl) trivial ?_
    obtain ⟨w156, cw156, h⟩ := bindS h
    refine f77_num_Unhex_L5_ok n s [] 0 w156 cw156 _ ?_
    rcases w156 with e157 | e158
    · have h := Option.some.inj h
      subst h
      rfl
    · show At Tryd.prog Tryd.f77 0 13 ⟨[(4, oc (.own 0 (.int .u8) e158))], [(0, some ⟨5, 0⟩)], [], 1⟩ _
      rcases iteS h with ⟨b159_e0, h⟩ | ⟨b159_e0, h⟩
      · refine At.step hm ht ⟨[], [true], [], [], []⟩ 14 ⟨[], [], [], 0⟩ [((((e158.length : Nat) : Int) : Int) == 0) = true] (by kernel_rfl) ⟨b159_e0, trivial⟩ ?_
        have h := Option.some.inj h
        subst h
        exact At.fin hm ht ⟨[], [], [.nil false 2 0 (.int .u8) (some 5)], [2, 3], [2]⟩ [] (by kernel_rfl) trivial
      · refine At.step hm ht ⟨[], [false], [], [4], [0]⟩ 15 ⟨[(4, oc (.own 0 (.int .u8) e158))], [(0, some ⟨5, 0⟩)], [], 1⟩ [((((e158.length : Nat) : Int) : Int) == 0) = false] (by kernel_rfl) ⟨b159_e0, trivial⟩ ?_
        have h := Option.some.inj h
        subst h
        exact At.fin hm ht ⟨[], [], [], [2, 3], [0]⟩ [] (by kernel_rfl) trivial
/-! brougham/script.part -/
def f71_script_part_v2_in (c : Int) (s_0 : Int) (s_1 : Int) (s_2 : Int) (s_3 : Int) (s_4 : Int) (s_5 : Int) (s_6 : List Int) : Inn := ⟨[.c (.ptr 0 0), .c (.d (.int .u8 c))], [(1, ⟨5, 0⟩)], [(0, [zi s_0, zi s_1, zi s_2, zi s_3, zi s_4, zi s_5, .own 1 (.int .u8) s_6])], 2⟩
def f71_script_part_v2_out (r : (Int × Int × Int × Int × Int × Int × List Int) ⊕ (Int × Int × Int × Int × Int × Int × List Int) ⊕ (Int × Int × Int × Int × Int × Int × List Int) ⊕ (Int × Int × Int × Int × Int × Int × List Int) ⊕ (Int × Int × Int × Int × Int × Int × List Int) ⊕ (Int × Int × Int × Int × Int × Int × List Int)) : Out := match r with
  | .inl e => ⟨oc (.ptr 0 1), [(1, ⟨5, 0⟩)], [(0, [zi e.1, zi e.2.1, zi e.2.2.1, zi e.2.2.2.1, zi e.2.2.2.2.1, zi e.2.2.2.2.2.1, .own 1 (.int .u8) e.2.2.2.2.2.2])], 2⟩
  | .inr (.inl e) => ⟨oc (.ptr 0 2), [(1, ⟨5, 0⟩)], [(0, [zi e.1, zi e.2.1, zi e.2.2.1, zi e.2.2.2.1, zi e.2.2.2.2.1, zi e.2.2.2.2.2.1, .own 1 (.int .u8) e.2.2.2.2.2.2])], 2⟩
  | .inr (.inr (.inl e)) => ⟨oc (.ptr 0 3), [(1, ⟨5, 0⟩)], [(0, [zi e.1, zi e.2.1, zi e.2.2.1, zi e.2.2.2.1, zi e.2.2.2.2.1, zi e.2.2.2.2.2.1, .own 1 (.int .u8) e.2.2.2.2.2.2])], 2⟩
  | .inr (.inr (.inr (.inl e))) => ⟨oc (.ptr 0 4), [(1, ⟨5, 0⟩)], [(0, [zi e.1, zi e.2.1, zi e.2.2.1, zi e.2.2.2.1, zi e.2.2.2.2.1, zi e.2.2.2.2.2.1, .own 1 (.int .u8) e.2.2.2.2.2.2])], 2⟩
  | .inr (.inr (.inr (.inr (.inl e)))) => ⟨oc (.ptr 0 5), [(1, ⟨5, 0⟩)], [(0, [zi e.1, zi e.2.1, zi e.2.2.1, zi e.2.2.2.1, zi e.2.2.2.2.1, zi e.2.2.2.2.2.1, .own 1 (.int .u8) e.2.2.2.2.2.2])], 2⟩
  | .inr (.inr (.inr (.inr (.inr e)))) => ⟨oc (.d (.nilP)), [(1, ⟨5, 0⟩)], [(0, [zi e.1, zi e.2.1, zi e.2.2.1, zi e.2.2.2.1, zi e.2.2.2.2.1, zi e.2.2.2.2.2.1, .own 1 (.int .u8) e.2.2.2.2.2.2])], 2⟩
def f71_script_part_v2 (c : Int) (s_0 : Int) (s_1 : Int) (s_2 : Int) (s_3 : Int) (s_4 : Int) (s_5 : Int) (s_6 : List Int) : Option ((Int × Int × Int × Int × Int × Int × List Int) ⊕ (Int × Int × Int × Int × Int × Int × List Int) ⊕ (Int × Int × Int × Int × Int × Int × List Int) ⊕ (Int × Int × Int × Int × Int × Int × List Int) ⊕ (Int × Int × Int × Int × Int × Int × List Int) ⊕ (Int × Int × Int × Int × Int × Int × List Int)) :=
  if ((c : Int) == 104) = true then
    some (.inl (s_0, s_1, s_2, s_3, s_4, s_5, s_6))
  else
    if ((c : Int) == 110) = true then
      some (.inr (.inl (s_0, s_1, s_2, s_3, s_4, s_5, s_6)))
    else
      if ((c : Int) == 112) = true then
        some (.inr (.inr (.inl (s_0, s_1, s_2, s_3, s_4, s_5, s_6))))
      else
        if ((c : Int) == 119) = true then
          some (.inr (.inr (.inr (.inl (s_0, s_1, s_2, s_3, s_4, s_5, s_6)))))
        else
          if ((c : Int) == 107) = true then
            some (.inr (.inr (.inr (.inr (.inl (s_0, s_1, s_2, s_3, s_4, s_5, s_6))))))
          else
            some (.inr (.inr (.inr (.inr (.inr ((s_0, s_1, s_2, s_3, s_4, s_5, s_6)))))))
theorem f71_script_part_v2_ok (c : Int) (s_0 : Int) (s_1 : Int) (s_2 : Int) (s_3 : Int) (s_4 : Int) (s_5 : Int) (s_6 : List Int) (r : (Int × Int × Int × Int × Int × Int × List Int) ⊕ (Int × Int × Int × Int × Int × Int × List Int) ⊕ (Int × Int × Int × Int × Int × Int × List Int) ⊕ (Int × Int × Int × Int × Int × Int × List Int) ⊕ (Int × Int × Int × Int × Int × Int × List Int) ⊕ (Int × Int × Int × Int × Int × Int × List Int)) (h : f71_script_part_v2 c s_0 s_1 s_2 s_3 s_4 s_5 s_6 = some r) : FnOK Tryd.prog 71 (f71_script_part_v2_in c s_0 s_1 s_2 s_3 s_4 s_5 s_6) (f71_script_part_v2_out r) := by
  unfold f71_script_part_v2 at h
  refine At.fn (r := 0) Tryd.func71 rfl (by kernel_rfl) rfl (by rcases r with _ | _ | _ | _ | _ | _ <;> rfl) (by kernel_rfl) ?_
  show At Tryd.prog Tryd.f71 2 0 ⟨[(0, oc (.ptr 0 0)), (1, oc (.d (.int .u8 c)))], [(1, some ⟨5, 0⟩)], [(0, [zi s_0, zi s_1, zi s_2, zi s_3, zi s_4, zi s_5, .own 1 (.int .u8) s_6])], 2⟩ _
  refine At.step hm ht ⟨[], [], [], [0, 1], [0, 1]⟩ 1 ⟨[(0, oc (.ptr 0 0)), (1, oc (.d (.int .u8 c)))], [(1, some ⟨5, 0⟩)], [(0, [zi s_0, zi s_1, zi s_2, zi s_3, zi s_4, zi s_5, .own 1 (.int .u8) s_6])], 2⟩ [] (by kernel_rfl) trivial ?_
  refine At.step hm ht ⟨[], [], [], [0, 5], [0, 1]⟩ 2 ⟨[(0, oc (.ptr 0 0)), (5, oc (.d (.int .u8 c)))], [(1, some ⟨5, 0⟩)], [(0, [zi s_0, zi s_1, zi s_2, zi s_3, zi s_4, zi s_5, .own 1 (.int .u8) s_6])], 2⟩ [] (by kernel_rfl) trivial ?_
  rcases iteS h with ⟨b181_e0, h⟩ | ⟨b181_e0, h⟩
  · refine At.step hm ht ⟨[], [true], [], [0], [0, 1]⟩ 3 ⟨[(0, oc (.ptr 0 0))], [(1, some ⟨5, 0⟩)], [(0, [zi s_0, zi s_1, zi s_2, zi s_3, zi s_4, zi s_5, .own 1 (.int .u8) s_6])], 2⟩ [((c : Int) == 104) = true] (by kernel_rfl) ⟨b181_e0, trivial⟩ ?_
    have h := Option.some.inj h
    subst h
    exact At.fin hm ht ⟨[], [], [], [4], [0, 1]⟩ [] (by kernel_rfl) trivial
  · refine At.step hm ht ⟨[], [false], [], [0, 5], [0, 1]⟩ 4 ⟨[(0, oc (.ptr 0 0)), (5, oc (.d (.int .u8 c)))], [(1, some ⟨5, 0⟩)], [(0, [zi s_0, zi s_1, zi s_2, zi s_3, zi s_4, zi s_5, .own 1 (.int .u8) s_6])], 2⟩ [((c : Int) == 104) = false] (by kernel_rfl) ⟨b181_e0, trivial⟩ ?_
    rcases iteS h with ⟨b183_e0, h⟩ | ⟨b183_e0, h⟩
    · refine At.step hm ht ⟨[], [true], [], [0], [0, 1]⟩ 5 ⟨[(0, oc (.ptr 0 0))], [(1, some ⟨5, 0⟩)], [(0, [zi s_0, zi s_1, zi s_2, zi s_3, zi s_4, zi s_5, .own 1 (.int .u8) s_6])], 2⟩ [((c : Int) == 110) = true] (by kernel_rfl) ⟨b183_e0, trivial⟩ ?_
      have h := Option.some.inj h
      subst h
      exact At.fin hm ht ⟨[], [], [], [4], [0, 1]⟩ [] (by kernel_rfl) trivial
    · refine At.step hm ht ⟨[], [false], [], [0, 5], [0, 1]⟩ 6 ⟨[(0, oc (.ptr 0 0)), (5, oc (.d (.int .u8 c)))], [(1, some ⟨5, 0⟩)], [(0, [zi s_0, zi s_1, zi s_2, zi s_3, zi s_4, zi s_5, .own 1 (.int .u8) s_6])], 2⟩ [((c : Int) == 110) = false] (by kernel_rfl) ⟨b183_e0, trivial⟩ ?_
      rcases iteS h with ⟨b185_e0, h⟩ | ⟨b185_e0, h⟩
      · refine At.step hm ht ⟨[], [true], [], [0], [0, 1]⟩ 7 ⟨[(0, oc (.ptr 0 0))], [(1, some ⟨5, 0⟩)], [(0, [zi s_0, zi s_1, zi s_2, zi s_3, zi s_4, zi s_5, .own 1 (.int .u8) s_6])], 2⟩ [((c : Int) == 112) = true] (by kernel_rfl) ⟨b185_e0, trivial⟩ ?_
        have h := Option.some.inj h
        subst h
        exact At.fin hm ht ⟨[], [], [], [4], [0, 1]⟩ [] (by kernel_rfl) trivial
      · refine At.step hm ht ⟨[], [false], [], [0, 5], [0, 1]⟩ 8 ⟨[(0, oc (.ptr 0 0)), (5, oc (.d (.int .u8 c)))], [(1, some ⟨5, 0⟩)], [(0, [zi s_0, zi s_1, zi s_2, zi s_3, zi s_4, zi s_5, .own 1 (.int .u8) s_6])], 2⟩ [((c : Int) == 112) = false] (by kernel_rfl) ⟨b185_e0, trivial⟩ ?_
        rcases iteS h with ⟨b187_e0, h⟩ | ⟨b187_e0, h⟩
        · refine At.step hm ht ⟨[], [true], [], [0], [0, 1]⟩ 9 ⟨[(0, oc (.ptr 0 0))], [(1, some ⟨5, 0⟩)], [(0, [zi s_0, zi s_1, zi s_2, zi s_3, zi s_4, zi s_5, .own 1 (.int .u8) s_6])], 2⟩ [((c : Int) == 119) = true] (by kernel_rfl) ⟨b187_e0, trivial⟩ ?_
          have h := Option.some.inj h
          subst h
          exact At.fin hm ht ⟨[], [], [], [4], [0, 1]⟩ [] (by kernel_rfl) trivial
        · refine At.step hm ht ⟨[], [false], [], [0, 5], [0, 1]⟩ 10 ⟨[(0, oc (.ptr 0 0)), (5, oc (.d (.int .u8 c)))], [(1, some ⟨5, 0⟩)], [(0, [zi s_0, zi s_1, zi s_2, zi s_3, zi s_4, zi s_5, .own 1 (.int .u8) s_6])], 2⟩ [((c : Int) == 119) = false] (by kernel_rfl) ⟨b187_e0, trivial⟩ ?_
          rcases iteS h with ⟨b189_e0, h⟩ | ⟨b189_e0, h⟩
          · refine At.step hm ht ⟨[], [true], [], [0], [0, 1]⟩ 11 ⟨[(0, oc (.ptr 0 0))], [(1, some ⟨5, 0⟩)], [(0, [zi s_0, zi s_1, zi s_2, zi s_3, zi s_4, zi s_5, .own 1 (.int .u8) s_6])], 2⟩ [((c : Int) == 107) = true] (by kernel_rfl) ⟨b189_e0, trivial⟩ ?_
            have h := Option.some.inj h
            subst h
            exact At.fin hm ht ⟨[], [], [], [4], [0, 1]⟩ [] (by kernel_rfl) trivial
          · refine At.step hm ht ⟨[], [false], [], [], [0, 1]⟩ 12 ⟨[], [(1, some ⟨5, 0⟩)], [(0, [zi s_0, zi s_1, zi s_2, zi s_3, zi s_4, zi s_5, .own 1 (.int .u8) s_6])], 2⟩ [((c : Int) == 107) = false] (by kernel_rfl) ⟨b189_e0, trivial⟩ ?_
            have h := Option.some.inj h
            subst h
            exact At.fin hm ht ⟨[], [], [], [4], [0, 1]⟩ [] (by kernel_rfl) trivial
/-! brougham/script.step -/
def f46_script_step_in (w_ : List ByteArray) : Inn := ⟨[.c (.d (.sl .str w_))], [], [], 0⟩
def f46_script_step_out (r : Bool × Int × Int × Int × Int × Int × Int × List Int) : Out := ⟨.tup [.agg [zi r.2.1, zi r.2.2.1, zi r.2.2.2.1, zi r.2.2.2.2.1, zi r.2.2.2.2.2.1, zi r.2.2.2.2.2.2.1, .own 1 (.int .u8) r.2.2.2.2.2.2.2], .c (.d (.bool r.1))], [(1, ⟨5, 0⟩)], [(0, [zi r.2.1, zi r.2.2.1, zi r.2.2.2.1, zi r.2.2.2.2.1, zi r.2.2.2.2.2.1, zi r.2.2.2.2.2.2.1, .own 1 (.int .u8) r.2.2.2.2.2.2.2])], 2⟩
def f46_script_step_L7 : Nat → (List ByteArray) → Int → Int → Int → Int → Int → Int → Int → Int → ByteArray → ByteArray → Int → Int → Int → Int → Int → Int → (List Int) → Option ((Bool × Int × Int × Int × Int × Int × Int × List Int) ⊕ (Int × Int × Int × Int × Int × Int × Int × Int × Int × Int × Int × Int × List Int))
  | 0, _, _, _, _, _, _, _, _, _, _, _, _, _, _, _, _, _, _ => none
  | n + 1, w_, t38, t39, t2_0, t2_1, t2_2, t2_3, t2_4, t2_5, x_0, x_1, s_0, s_1, s_2, s_3, s_4, s_5, s_6 =>
    if (decide ((t39 : Int) < t38)) = true then
      if (0 : Int) ≤ t39 ∧ t39 < (((x_1).size : Nat) : Int) then
      (f71_script_part_v2 (byteAt x_1 t39) s_0 s_1 s_2 s_3 s_4 s_5 s_6).bind fun r239_1 =>
      match r239_1 with
      | .inl er239_1_0 =>
        if (0 : Int) ≤ (IntKind.wrap .i64 (t39 + 1)) ∧ (IntKind.wrap .i64 (t39 + 1)) < (((w_).length : Nat) : Int) then
        (f51_num_Parse (w_.getD (IntKind.wrap .i64 (t39 + 1)).toNat ByteArray.empty)).bind fun r241_1 =>
        if ((r241_1.2 : Int) != 0) = true then
          some (.inl (false, 0, 0, 0, 0, 0, 0, []))
        else
          f46_script_step_L7 n w_ t38 (IntKind.wrap .i64 (t39 + 1)) t2_0 t2_1 t2_2 t2_3 t2_4 t2_5 x_0 x_1 er239_1_0.1 r241_1.1 er239_1_0.2.2.1 er239_1_0.2.2.2.1 er239_1_0.2.2.2.2.1 er239_1_0.2.2.2.2.2.1 er239_1_0.2.2.2.2.2.2
        else none
      | .inr (.inl er239_1_1) =>
        if (0 : Int) ≤ (IntKind.wrap .i64 (t39 + 1)) ∧ (IntKind.wrap .i64 (t39 + 1)) < (((w_).length : Nat) : Int) then
        (f51_num_Parse (w_.getD (IntKind.wrap .i64 (t39 + 1)).toNat ByteArray.empty)).bind fun r246_1 =>
        if ((r246_1.2 : Int) != 0) = true then
          some (.inl (false, 0, 0, 0, 0, 0, 0, []))
        else
          f46_script_step_L7 n w_ t38 (IntKind.wrap .i64 (t39 + 1)) t2_0 t2_1 t2_2 t2_3 t2_4 t2_5 x_0 x_1 er239_1_1.1 er239_1_1.2.1 r246_1.1 er239_1_1.2.2.2.1 er239_1_1.2.2.2.2.1 er239_1_1.2.2.2.2.2.1 er239_1_1.2.2.2.2.2.2
        else none
      | .inr (.inr (.inl er239_1_2)) =>
        if (0 : Int) ≤ (IntKind.wrap .i64 (t39 + 1)) ∧ (IntKind.wrap .i64 (t39 + 1)) < (((w_).length : Nat) : Int) then
        (f51_num_Parse (w_.getD (IntKind.wrap .i64 (t39 + 1)).toNat ByteArray.empty)).bind fun r251_1 =>
        if ((r251_1.2 : Int) != 0) = true then
          some (.inl (false, 0, 0, 0, 0, 0, 0, []))
        else
          f46_script_step_L7 n w_ t38 (IntKind.wrap .i64 (t39 + 1)) t2_0 t2_1 t2_2 t2_3 t2_4 t2_5 x_0 x_1 er239_1_2.1 er239_1_2.2.1 er239_1_2.2.2.1 r251_1.1 er239_1_2.2.2.2.2.1 er239_1_2.2.2.2.2.2.1 er239_1_2.2.2.2.2.2.2
        else none
      | .inr (.inr (.inr (.inl er239_1_3))) =>
        if (0 : Int) ≤ (IntKind.wrap .i64 (t39 + 1)) ∧ (IntKind.wrap .i64 (t39 + 1)) < (((w_).length : Nat) : Int) then
        (f51_num_Parse (w_.getD (IntKind.wrap .i64 (t39 + 1)).toNat ByteArray.empty)).bind fun r256_1 =>
        if ((r256_1.2 : Int) != 0) = true then
          some (.inl (false, 0, 0, 0, 0, 0, 0, []))
        else
          f46_script_step_L7 n w_ t38 (IntKind.wrap .i64 (t39 + 1)) t2_0 t2_1 t2_2 t2_3 t2_4 t2_5 x_0 x_1 er239_1_3.1 er239_1_3.2.1 er239_1_3.2.2.1 er239_1_3.2.2.2.1 r256_1.1 er239_1_3.2.2.2.2.2.1 er239_1_3.2.2.2.2.2.2
        else none
      | .inr (.inr (.inr (.inr (.inl er239_1_4)))) =>
        if (0 : Int) ≤ (IntKind.wrap .i64 (t39 + 1)) ∧ (IntKind.wrap .i64 (t39 + 1)) < (((w_).length : Nat) : Int) then
        (f51_num_Parse (w_.getD (IntKind.wrap .i64 (t39 + 1)).toNat ByteArray.empty)).bind fun r261_1 =>
        if ((r261_1.2 : Int) != 0) = true then
          some (.inl (false, 0, 0, 0, 0, 0, 0, []))
        else
          f46_script_step_L7 n w_ t38 (IntKind.wrap .i64 (t39 + 1)) t2_0 t2_1 t2_2 t2_3 t2_4 t2_5 x_0 x_1 er239_1_4.1 er239_1_4.2.1 er239_1_4.2.2.1 er239_1_4.2.2.2.1 er239_1_4.2.2.2.2.1 r261_1.1 er239_1_4.2.2.2.2.2.2
        else none
      | .inr (.inr (.inr (.inr (.inr er239_1_5)))) =>
        if (0 : Int) ≤ (IntKind.wrap .i64 (t39 + 1)) ∧ (IntKind.wrap .i64 (t39 + 1)) < (((w_).length : Nat) : Int) then
        (f77_num_Unhex n (w_.getD (IntKind.wrap .i64 (t39 + 1)).toNat ByteArray.empty)).bind fun r266_1 =>
        if ((r266_1.2 : Int) != 0) = true then
          some (.inl (false, 0, 0, 0, 0, 0, 0, []))
        else
          f46_script_step_L7 n w_ t38 (IntKind.wrap .i64 (t39 + 1)) t2_0 t2_1 t2_2 t2_3 t2_4 t2_5 x_0 x_1 er239_1_5.1 er239_1_5.2.1 er239_1_5.2.2.1 er239_1_5.2.2.2.1 er239_1_5.2.2.2.2.1 er239_1_5.2.2.2.2.2.1 r266_1.1
        else none
      else none
    else
      some (.inr ((t2_0, t2_1, t2_2, t2_3, t2_4, t2_5, s_0, s_1, s_2, s_3, s_4, s_5, s_6)))
def f46_script_step_L7_k (w : (Bool × Int × Int × Int × Int × Int × Int × List Int) ⊕ (Int × Int × Int × Int × Int × Int × Int × Int × Int × Int × Int × Int × List Int)) (o : Out) : Prop := match w with
  | .inl e => o = f46_script_step_out e
  | .inr e => At Tryd.prog Tryd.f46 0 17 ⟨[(2, oc (.ptr 0 0)), (6, oc (.ptr 1 0))], [(2, some ⟨5, 0⟩)], [(0, [zi e.1, zi e.2.1, zi e.2.2.1, zi e.2.2.2.1, zi e.2.2.2.2.1, zi e.2.2.2.2.2.1, .d (.sl .unit [])]), (1, [zi e.2.2.2.2.2.2.1, zi e.2.2.2.2.2.2.2.1, zi e.2.2.2.2.2.2.2.2.1, zi e.2.2.2.2.2.2.2.2.2.1, zi e.2.2.2.2.2.2.2.2.2.2.1, zi e.2.2.2.2.2.2.2.2.2.2.2.1, .own 2 (.int .u8) e.2.2.2.2.2.2.2.2.2.2.2.2])], 3⟩ o
theorem f46_script_step_L7_ok (n : Nat) : ∀ (w_ : List ByteArray) (t38 : Int) (t39 : Int) (t2_0 : Int) (t2_1 : Int) (t2_2 : Int) (t2_3 : Int) (t2_4 : Int) (t2_5 : Int) (x_0 : ByteArray) (x_1 : ByteArray) (s_0 : Int) (s_1 : Int) (s_2 : Int) (s_3 : Int) (s_4 : Int) (s_5 : Int) (s_6 : List Int) (w : (Bool × Int × Int × Int × Int × Int × Int × List Int) ⊕ (Int × Int × Int × Int × Int × Int × Int × Int × Int × Int × Int × Int × List Int)) (h : f46_script_step_L7 n w_ t38 t39 t2_0 t2_1 t2_2 t2_3 t2_4 t2_5 x_0 x_1 s_0 s_1 s_2 s_3 s_4 s_5 s_6 = some w) (o : Out) (hk : f46_script_step_L7_k w o), At Tryd.prog Tryd.f46 0 7 ⟨[(0, oc (.d (.sl .str w_))), (2, oc (.ptr 0 0)), (5, oc (.ptr 1 0)), (6, oc (.ptr 2 0)), (38, oc (zi t38)), (39, oc (zi t39))], [(3, some ⟨5, 0⟩)], [(0, [zi t2_0, zi t2_1, zi t2_2, zi t2_3, zi t2_4, zi t2_5, .d (.sl .unit [])]), (1, [.d (.str x_0), .d (.str x_1)]), (2, [zi s_0, zi s_1, zi s_2, zi s_3, zi s_4, zi s_5, .own 3 (.int .u8) s_6])], 4⟩ o := by
  induction n with
  | zero => intro w_ t38 t39 t2_0 t2_1 t2_2 t2_3 t2_4 t2_5 x_0 x_1 s_0 s_1 s_2 s_3 s_4 s_5 s_6 w h; rw [f46_script_step_L7] at h; cases h
  | succ n ih =>
    intro w_ t38 t39 t2_0 t2_1 t2_2 t2_3 t2_4 t2_5 x_0 x_1 s_0 s_1 s_2 s_3 s_4 s_5 s_6 w h o hk
    rw [f46_script_step_L7] at h
    rcases iteS h with ⟨b236_e0, h⟩ | ⟨b236_e0, h⟩
    · refine At.step hm ht ⟨[], [true], [], [0, 2, 5, 6, 38, 39], [0, 1, 2, 3]⟩ 8 ⟨[(0, oc (.d (.sl .str w_))), (2, oc (.ptr 0 0)), (5, oc (.ptr 1 0)), (6, oc (.ptr 2 0)), (38, oc (zi t38)), (39, oc (zi t39))], [(3, some ⟨5, 0⟩)], [(0, [zi t2_0, zi t2_1, zi t2_2, zi t2_3, zi t2_4, zi t2_5, .d (.sl .unit [])]), (1, [.d (.str x_0), .d (.str x_1)]), (2, [zi s_0, zi s_1, zi s_2, zi s_3, zi s_4, zi s_5, .own 3 (.int .u8) s_6])], 4⟩ [(decide ((t39 : Int) < t38)) = true] (by kernel_rfl) ⟨b236_e0, trivial⟩ ?_
      refine At.step hm ht ⟨[], [], [], [0, 2, 5, 6, 7, 38, 39], [0, 1, 2, 3]⟩ 9 ⟨[(0, oc (.d (.sl .str w_))), (2, oc (.ptr 0 0)), (5, oc (.ptr 1 0)), (6, oc (.ptr 2 0)), (7, oc (zi t39)), (38, oc (zi t38)), (39, oc (zi t39))], [(3, some ⟨5, 0⟩)], [(0, [zi t2_0, zi t2_1, zi t2_2, zi t2_3, zi t2_4, zi t2_5, .d (.sl .unit [])]), (1, [.d (.str x_0), .d (.str x_1)]), (2, [zi s_0, zi s_1, zi s_2, zi s_3, zi s_4, zi s_5, .own 3 (.int .u8) s_6])], 4⟩ [] (by kernel_rfl) trivial ?_
      refine At.step hm ht ⟨[], [], [], [0, 2, 5, 6, 7, 38, 39], [0, 1, 2, 3]⟩ 10 ⟨[(0, oc (.d (.sl .str w_))), (2, oc (.ptr 0 0)), (5, oc (.ptr 1 0)), (6, oc (.ptr 2 0)), (7, oc (zi t39)), (38, oc (zi t38)), (39, oc (zi t39))], [(3, some ⟨5, 0⟩)], [(0, [zi t2_0, zi t2_1, zi t2_2, zi t2_3, zi t2_4, zi t2_5, .d (.sl .unit [])]), (1, [.d (.str x_0), .d (.str x_1)]), (2, [zi s_0, zi s_1, zi s_2, zi s_3, zi s_4, zi s_5, .own 3 (.int .u8) s_6])], 4⟩ [] (by kernel_rfl) trivial ?_
      obtain ⟨g239_0, h⟩ := ifS h
      obtain ⟨r239_1, cr239_1, h⟩ := bindS h
      rcases r239_1 with er239_1_0 | er239_1_1 | er239_1_2 | er239_1_3 | er239_1_4 | er239_1_5
      · refine At.step hm ht ⟨[(4, .call [2, 3] [] (f71_script_part_v2_out (.inl er239_1_0)))], [], [], [0, 2, 5, 6, 7, 9, 38, 39], [0, 1, 2, 3]⟩ 11 ⟨[(0, oc (.d (.sl .str w_))), (2, oc (.ptr 0 0)), (5, oc (.ptr 1 0)), (6, oc (.ptr 2 0)), (7, oc (zi t39)), (9, oc (.ptr 2 1)), (38, oc (zi t38)), (39, oc (zi t39))], [(3, some ⟨5, 0⟩)], [(0, [zi t2_0, zi t2_1, zi t2_2, zi t2_3, zi t2_4, zi t2_5, .d (.sl .unit [])]), (1, [.d (.str x_0), .d (.str x_1)]), (2, [zi er239_1_0.1, zi er239_1_0.2.1, zi er239_1_0.2.2.1, zi er239_1_0.2.2.2.1, zi er239_1_0.2.2.2.2.1, zi er239_1_0.2.2.2.2.2.1, .own 3 (.int .u8) er239_1_0.2.2.2.2.2.2])], 4⟩ [(0 : Int) ≤ t39 ∧ t39 < (((x_1).size : Nat) : Int), FnOK Tryd.prog 71 (f71_script_part_v2_in (byteAt x_1 t39) s_0 s_1 s_2 s_3 s_4 s_5 s_6) (f71_script_part_v2_out (.inl er239_1_0))] (by kernel_rfl) ⟨g239_0, (f71_script_part_v2_ok (byteAt x_1 t39) s_0 s_1 s_2 s_3 s_4 s_5 s_6 (.inl er239_1_0) cr239_1), trivial⟩ ?_
        refine At.step hm ht ⟨[], [true], [], [0, 2, 5, 6, 7, 9, 38, 39], [0, 1, 2, 3]⟩ 12 ⟨[(0, oc (.d (.sl .str w_))), (2, oc (.ptr 0 0)), (5, oc (.ptr 1 0)), (6, oc (.ptr 2 0)), (7, oc (zi t39)), (9, oc (.ptr 2 1)), (38, oc (zi t38)), (39, oc (zi t39))], [(3, some ⟨5, 0⟩)], [(0, [zi t2_0, zi t2_1, zi t2_2, zi t2_3, zi t2_4, zi t2_5, .d (.sl .unit [])]), (1, [.d (.str x_0), .d (.str x_1)]), (2, [zi er239_1_0.1, zi er239_1_0.2.1, zi er239_1_0.2.2.1, zi er239_1_0.2.2.2.1, zi er239_1_0.2.2.2.2.1, zi er239_1_0.2.2.2.2.2.1, .own 3 (.int .u8) er239_1_0.2.2.2.2.2.2])], 4⟩ [true = true] (by kernel_rfl) ⟨rfl, trivial⟩ ?_
        obtain ⟨g241_0, h⟩ := ifS h
        obtain ⟨r241_1, cr241_1, h⟩ := bindS h
        refine At.step hm ht ⟨[(6, .call [] [] (f51_num_Parse_out r241_1))], [], [], [0, 2, 5, 6, 8, 38, 39], [0, 1, 2, 3]⟩ 14 ⟨[(0, oc (.d (.sl .str w_))), (2, oc (.ptr 0 0)), (5, oc (.ptr 1 0)), (6, oc (.ptr 2 0)), (8, oc (zi r241_1.2)), (38, oc (zi t38)), (39, oc (zi t39))], [(3, some ⟨5, 0⟩)], [(0, [zi t2_0, zi t2_1, zi t2_2, zi t2_3, zi t2_4, zi t2_5, .d (.sl .unit [])]), (1, [.d (.str x_0), .d (.str x_1)]), (2, [zi er239_1_0.1, zi r241_1.1, zi er239_1_0.2.2.1, zi er239_1_0.2.2.2.1, zi er239_1_0.2.2.2.2.1, zi er239_1_0.2.2.2.2.2.1, .own 3 (.int .u8) er239_1_0.2.2.2.2.2.2])], 4⟩ [(0 : Int) ≤ (IntKind.wrap .i64 (t39 + 1)) ∧ (IntKind.wrap .i64 (t39 + 1)) < (((w_).length : Nat) : Int), FnOK Tryd.prog 51 (f51_num_Parse_in (w_.getD (IntKind.wrap .i64 (t39 + 1)).toNat ByteArray.empty)) (f51_num_Parse_out r241_1), 1 + 1 ≤ 7] (by kernel_rfl) ⟨g241_0, (f51_num_Parse_ok (w_.getD (IntKind.wrap .i64 (t39 + 1)).toNat ByteArray.empty) r241_1 cr241_1), (by decide), trivial⟩ ?_
        rcases iteS h with ⟨b242_e0, h⟩ | ⟨b242_e0, h⟩
        · refine At.step hm ht ⟨[], [true], [], [2], [0]⟩ 15 ⟨[(2, oc (.ptr 0 0))], [], [(0, [zi t2_0, zi t2_1, zi t2_2, zi t2_3, zi t2_4, zi t2_5, .d (.sl .unit [])])], 1⟩ [((r241_1.2 : Int) != 0) = true] (by kernel_rfl) ⟨b242_e0, trivial⟩ ?_
          have h := Option.some.inj h
          subst h
          have hk : o = f46_script_step_out (false, 0, 0, 0, 0, 0, 0, []) := hk
          subst hk
          exact At.fin hm ht ⟨[], [], [.nil true 0 6 (.int .u8) (some 5)], [2, 3], [0, 4]⟩ [0 + 7 ≤ 7] (by kernel_rfl) ⟨(by decide), trivial⟩
        · refine At.step hm ht ⟨[], [false], [], [0, 2, 5, 6, 38, 39], [0, 1, 2, 3]⟩ 16 ⟨[(0, oc (.d (.sl .str w_))), (2, oc (.ptr 0 0)), (5, oc (.ptr 1 0)), (6, oc (.ptr 2 0)), (38, oc (zi t38)), (39, oc (zi t39))], [(3, some ⟨5, 0⟩)], [(0, [zi t2_0, zi t2_1, zi t2_2, zi t2_3, zi t2_4, zi t2_5, .d (.sl .unit [])]), (1, [.d (.str x_0), .d (.str x_1)]), (2, [zi er239_1_0.1, zi r241_1.1, zi er239_1_0.2.2.1, zi er239_1_0.2.2.2.1, zi er239_1_0.2.2.2.2.1, zi er239_1_0.2.2.2.2.2.1, .own 3 (.int .u8) er239_1_0.2.2.2.2.2.2])], 4⟩ [((r241_1.2 : Int) != 0) = false] (by kernel_rfl) ⟨b242_e0, trivial⟩ ?_
          refine At.step hm ht ⟨[], [], [], [0, 2, 5, 6, 38, 39], [0, 1, 2, 3]⟩ 7 ⟨[(0, oc (.d (.sl .str w_))), (2, oc (.ptr 0 0)), (5, oc (.ptr 1 0)), (6, oc (.ptr 2 0)), (38, oc (zi t38)), (39, oc (zi (IntKind.wrap .i64 (t39 + 1))))], [(3, some ⟨5, 0⟩)], [(0, [zi t2_0, zi t2_1, zi t2_2, zi t2_3, zi t2_4, zi t2_5, .d (.sl .unit [])]), (1, [.d (.str x_0), .d (.str x_1)]), (2, [zi er239_1_0.1, zi r241_1.1, zi er239_1_0.2.2.1, zi er239_1_0.2.2.2.1, zi er239_1_0.2.2.2.2.1, zi er239_1_0.2.2.2.2.2.1, .own 3 (.int .u8) er239_1_0.2.2.2.2.2.2])], 4⟩ [] (by kernel_rfl) trivial ?_
          exact ih w_ t38 (IntKind.wrap .i64 (t39 + 1)) t2_0 t2_1 t2_2 t2_3 t2_4 t2_5 x_0 x_1 er239_1_0.1 r241_1.1 er239_1_0.2.2.1 er239_1_0.2.2.2.1 er239_1_0.2.2.2.2.1 er239_1_0.2.2.2.2.2.1 er239_1_0.2.2.2.2.2.2 w h o hk
      · refine At.step hm ht ⟨[(4, .call [2, 3] [] (f71_script_part_v2_out (.inr (.inl er239_1_1))))], [], [], [0, 2, 5, 6, 7, 9, 38, 39], [0, 1, 2, 3]⟩ 11 ⟨[(0, oc (.d (.sl .str w_))), (2, oc (.ptr 0 0)), (5, oc (.ptr 1 0)), (6, oc (.ptr 2 0)), (7, oc (zi t39)), (9, oc (.ptr 2 2)), (38, oc (zi t38)), (39, oc (zi t39))], [(3, some ⟨5, 0⟩)], [(0, [zi t2_0, zi t2_1, zi t2_2, zi t2_3, zi t2_4, zi t2_5, .d (.sl .unit [])]), (1, [.d (.str x_0), .d (.str x_1)]), (2, [zi er239_1_1.1, zi er239_1_1.2.1, zi er239_1_1.2.2.1, zi er239_1_1.2.2.2.1, zi er239_1_1.2.2.2.2.1, zi er239_1_1.2.2.2.2.2.1, .own 3 (.int .u8) er239_1_1.2.2.2.2.2.2])], 4⟩ [(0 : Int) ≤ t39 ∧ t39 < (((x_1).size : Nat) : Int), FnOK Tryd.prog 71 (f71_script_part_v2_in (byteAt x_1 t39) s_0 s_1 s_2 s_3 s_4 s_5 s_6) (f71_script_part_v2_out (.inr (.inl er239_1_1)))] (by kernel_rfl) ⟨g239_0, (f71_script_part_v2_ok (byteAt x_1 t39) s_0 s_1 s_2 s_3 s_4 s_5 s_6 (.inr (.inl er239_1_1)) cr239_1), trivial⟩ ?_
        refine At.step hm ht ⟨[], [true], [], [0, 2, 5, 6, 7, 9, 38, 39], [0, 1, 2, 3]⟩ 12 ⟨[(0, oc (.d (.sl .str w_))), (2, oc (.ptr 0 0)), (5, oc (.ptr 1 0)), (6, oc (.ptr 2 0)), (7, oc (zi t39)), (9, oc (.ptr 2 2)), (38, oc (zi t38)), (39, oc (zi t39))], [(3, some ⟨5, 0⟩)], [(0, [zi t2_0, zi t2_1, zi t2_2, zi t2_3, zi t2_4, zi t2_5, .d (.sl .unit [])]), (1, [.d (.str x_0), .d (.str x_1)]), (2, [zi er239_1_1.1, zi er239_1_1.2.1, zi er239_1_1.2.2.1, zi er239_1_1.2.2.2.1, zi er239_1_1.2.2.2.2.1, zi er239_1_1.2.2.2.2.2.1, .own 3 (.int .u8) er239_1_1.2.2.2.2.2.2])], 4⟩ [true = true] (by kernel_rfl) ⟨rfl, trivial⟩ ?_
        obtain ⟨g246_0, h⟩ := ifS h
        obtain ⟨r246_1, cr246_1, h⟩ := bindS h
        refine At.step hm ht ⟨[(6, .call [] [] (f51_num_Parse_out r246_1))], [], [], [0, 2, 5, 6, 8, 38, 39], [0, 1, 2, 3]⟩ 14 ⟨[(0, oc (.d (.sl .str w_))), (2, oc (.ptr 0 0)), (5, oc (.ptr 1 0)), (6, oc (.ptr 2 0)), (8, oc (zi r246_1.2)), (38, oc (zi t38)), (39, oc (zi t39))], [(3, some ⟨5, 0⟩)], [(0, [zi t2_0, zi t2_1, zi t2_2, zi t2_3, zi t2_4, zi t2_5, .d (.sl .unit [])]), (1, [.d (.str x_0), .d (.str x_1)]), (2, [zi er239_1_1.1, zi er239_1_1.2.1, zi r246_1.1, zi er239_1_1.2.2.2.1, zi er239_1_1.2.2.2.2.1, zi er239_1_1.2.2.2.2.2.1, .own 3 (.int .u8) er239_1_1.2.2.2.2.2.2])], 4⟩ [(0 : Int) ≤ (IntKind.wrap .i64 (t39 + 1)) ∧ (IntKind.wrap .i64 (t39 + 1)) < (((w_).length : Nat) : Int), FnOK Tryd.prog 51 (f51_num_Parse_in (w_.getD (IntKind.wrap .i64 (t39 + 1)).toNat ByteArray.empty)) (f51_num_Parse_out r246_1), 2 + 1 ≤ 7] (by kernel_rfl) ⟨g246_0, (f51_num_Parse_ok (w_.getD (IntKind.wrap .i64 (t39 + 1)).toNat ByteArray.empty) r246_1 cr246_1), (by decide), trivial⟩ ?_
        rcases iteS h with ⟨b247_e0, h⟩ | ⟨b247_e0, h⟩
        · refine At.step hm ht ⟨[], [true], [], [2], [0]⟩ 15 ⟨[(2, oc (.ptr 0 0))], [], [(0, [zi t2_0, zi t2_1, zi t2_2, zi t2_3, zi t2_4, zi t2_5, .d (.sl .unit [])])], 1⟩ [((r246_1.2 : Int) != 0) = true] (by kernel_rfl) ⟨b247_e0, trivial⟩ ?_
          have h := Option.some.inj h
          subst h
          have hk : o = f46_script_step_out (false, 0, 0, 0, 0, 0, 0, []) := hk
          subst hk
          exact At.fin hm ht ⟨[], [], [.nil true 0 6 (.int .u8) (some 5)], [2, 3], [0, 4]⟩ [0 + 7 ≤ 7] (by kernel_rfl) ⟨(by decide), trivial⟩
        · refine At.step hm ht ⟨[], [false], [], [0, 2, 5, 6, 38, 39], [0, 1, 2, 3]⟩ 16 ⟨[(0, oc (.d (.sl .str w_))), (2, oc (.ptr 0 0)), (5, oc (.ptr 1 0)), (6, oc (.ptr 2 0)), (38, oc (zi t38)), (39, oc (zi t39))], [(3, some ⟨5, 0⟩)], [(0, [zi t2_0, zi t2_1, zi t2_2, zi t2_3, zi t2_4, zi t2_5, .d (.sl .unit [])]), (1, [.d (.str x_0), .d (.str x_1)]), (2, [zi er239_1_1.1, zi er239_1_1.2.1, zi r246_1.1, zi er239_1_1.2.2.2.1, zi er239_1_1.2.2.2.2.1, zi er239_1_1.2.2.2.2.2.1, .own 3 (.int .u8) er239_1_1.2.2.2.2.2.2])], 4⟩ [((r246_1.2 : Int) != 0) = false] (by kernel_rfl) ⟨b247_e0, trivial⟩ ?_
          refine At.step hm ht ⟨[], [], [], [0, 2, 5, 6, 38, 39], [0, 1, 2, 3]⟩ 7 ⟨[(0, oc (.d (.sl .str w_))), (2, oc (.ptr 0 0)), (5, oc (.ptr 1 0)), (6, oc (.ptr 2 0)), (38, oc (zi t38)), (39, oc (zi (IntKind.wrap .i64 (t39 + 1))))], [(3, some ⟨5, 0⟩)], [(0, [zi t2_0, zi t2_1, zi t2_2, zi t2_3, zi t2_4, zi t2_5, .d (.sl .unit [])]), (1, [.d (.str x_0), .d (.str x_1)]), (2, [zi er239_1_1.1, zi er239_1_1.2.1, zi r246_1.1, zi er239_1_1.2.2.2.1, zi er239_1_1.2.2.2.2.1, zi er239_1_1.2.2.2.2.2.1, .own 3 (.int .u8) er239_1_1.2.2.2.2.2.2])], 4⟩ [] (by kernel_rfl) trivial ?_
          exact ih w_ t38 (IntKind.wrap .i64 (t39 + 1)) t2_0 t2_1 t2_2 t2_3 t2_4 t2_5 x_0 x_1 er239_1_1.1 er239_1_1.2.1 r246_1.1 er239_1_1.2.2.2.1 er239_1_1.2.2.2.2.1 er239_1_1.2.2.2.2.2.1 er239_1_1.2.2.2.2.2.2 w h o hk
      · refine At.step hm ht ⟨[(4, .call [2, 3] [] (f71_script_part_v2_out (.inr (.inr (.inl er239_1_2)))))], [], [], [0, 2, 5, 6, 7, 9, 38, 39], [0, 1, 2, 3]⟩ 11 ⟨[(0, oc (.d (.sl .str w_))), (2, oc (.ptr 0 0)), (5, oc (.ptr 1 0)), (6, oc (.ptr 2 0)), (7, oc (zi t39)), (9, oc (.ptr 2 3)), (38, oc (zi t38)), (39, oc (zi t39))], [(3, some ⟨5, 0⟩)], [(0, [zi t2_0, zi t2_1, zi t2_2, zi t2_3, zi t2_4, zi t2_5, .d (.sl .unit [])]), (1, [.d (.str x_0), .d (.str x_1)]), (2, [zi er239_1_2.1, zi er239_1_2.2.1, zi er239_1_2.2.2.1, zi er239_1_2.2.2.2.1, zi er239_1_2.2.2.2.2.1, zi er239_1_2.2.2.2.2.2.1, .own 3 (.int .u8) er239_1_2.2.2.2.2.2.2])], 4⟩ [(0 : Int) ≤ t39 ∧ t39 < (((x_1).size : Nat) : Int), FnOK Tryd.prog 71 (f71_script_part_v2_in (byteAt x_1 t39) s_0 s_1 s_2 s_3 s_4 s_5 s_6) (f71_script_part_v2_out (.inr (.inr (.inl er239_1_2))))] (by kernel_rfl) ⟨g239_0, (f71_script_part_v2_ok (byteAt x_1 t39) s_0 s_1 s_2 s_3 s_4 s_5 s_6 (.inr (.inr (.inl er239_1_2))) cr239_1), trivial⟩ ?_
        refine At.step hm ht ⟨[], [true], [], [0, 2, 5, 6, 7, 9, 38, 39], [0, 1, 2, 3]⟩ 12 ⟨[(0, oc (.d (.sl .str w_))), (2, oc (.ptr 0 0)), (5, oc (.ptr 1 0)), (6, oc (.ptr 2 0)), (7, oc (zi t39)), (9, oc (.ptr 2 3)), (38, oc (zi t38)), (39, oc (zi t39))], [(3, some ⟨5, 0⟩)], [(0, [zi t2_0, zi t2_1, zi t2_2, zi t2_3, zi t2_4, zi t2_5, .d (.sl .unit [])]), (1, [.d (.str x_0), .d (.str x_1)]), (2, [zi er239_1_2.1, zi er239_1_2.2.1, zi er239_1_2.2.2.1, zi er239_1_2.2.2.2.1, zi er239_1_2.2.2.2.2.1, zi er239_1_2.2.2.2.2.2.1, .own 3 (.int .u8) er239_1_2.2.2.2.2.2.2])], 4⟩ [true = true] (by kernel_rfl) ⟨rfl, trivial⟩ ?_
        obtain ⟨g251_0, h⟩ := ifS h
        obtain ⟨r251_1, cr251_1, h⟩ := bindS h
        refine At.step hm ht ⟨[(6, .call [] [] (f51_num_Parse_out r251_1))], [], [], [0, 2, 5, 6, 8, 38, 39], [0, 1, 2, 3]⟩ 14 ⟨[(0, oc (.d (.sl .str w_))), (2, oc (.ptr 0 0)), (5, oc (.ptr 1 0)), (6, oc (.ptr 2 0)), (8, oc (zi r251_1.2)), (38, oc (zi t38)), (39, oc (zi t39))], [(3, some ⟨5, 0⟩)], [(0, [zi t2_0, zi t2_1, zi t2_2, zi t2_3, zi t2_4, zi t2_5, .d (.sl .unit [])]), (1, [.d (.str x_0), .d (.str x_1)]), (2, [zi er239_1_2.1, zi er239_1_2.2.1, zi er239_1_2.2.2.1, zi r251_1.1, zi er239_1_2.2.2.2.2.1, zi er239_1_2.2.2.2.2.2.1, .own 3 (.int .u8) er239_1_2.2.2.2.2.2.2])], 4⟩ [(0 : Int) ≤ (IntKind.wrap .i64 (t39 + 1)) ∧ (IntKind.wrap .i64 (t39 + 1)) < (((w_).length : Nat) : Int), FnOK Tryd.prog 51 (f51_num_Parse_in (w_.getD (IntKind.wrap .i64 (t39 + 1)).toNat ByteArray.empty)) (f51_num_Parse_out r251_1), 3 + 1 ≤ 7] (by kernel_rfl) ⟨g251_0, (f51_num_Parse_ok (w_.getD (IntKind.wrap .i64 (t39 + 1)).toNat ByteArray.empty) r251_1 cr251_1), (by decide), trivial⟩ ?_
        rcases iteS h with ⟨b252_e0, h⟩ | ⟨b252_e0, h⟩
        · refine At.step hm ht ⟨[], [true], [], [2], [0]⟩ 15 ⟨[(2, oc (.ptr 0 0))], [], [(0, [zi t2_0, zi t2_1, zi t2_2, zi t2_3, zi t2_4, zi t2_5, .d (.sl .unit [])])], 1⟩ [((r251_1.2 : Int) != 0) = true] (by kernel_rfl) ⟨b252_e0, trivial⟩ ?_
          have h := Option.some.inj h
          subst h
          have hk : o = f46_script_step_out (false, 0, 0, 0, 0, 0, 0, []) := hk
          subst hk
          exact At.fin hm ht ⟨[], [], [.nil true 0 6 (.int .u8) (some 5)], [2, 3], [0, 4]⟩ [0 + 7 ≤ 7] (by kernel_rfl) ⟨(by decide), trivial⟩
        · refine At.step hm ht ⟨[], [false], [], [0, 2, 5, 6, 38, 39], [0, 1, 2, 3]⟩ 16 ⟨[(0, oc (.d (.sl .str w_))), (2, oc (.ptr 0 0)), (5, oc (.ptr 1 0)), (6, oc (.ptr 2 0)), (38, oc (zi t38)), (39, oc (zi t39))], [(3, some ⟨5, 0⟩)], [(0, [zi t2_0, zi t2_1, zi t2_2, zi t2_3, zi t2_4, zi t2_5, .d (.sl .unit [])]), (1, [.d (.str x_0), .d (.str x_1)]), (2, [zi er239_1_2.1, zi er239_1_2.2.1, zi er239_1_2.2.2.1, zi r251_1.1, zi er239_1_2.2.2.2.2.1, zi er239_1_2.2.2.2.2.2.1, .own 3 (.int .u8) er239_1_2.2.2.2.2.2.2])], 4⟩ [((r251_1.2 : Int) != 0) = false] (by kernel_rfl) ⟨b252_e0, trivial⟩ ?_
          refine At.step hm ht ⟨[], [], [], [0, 2, 5, 6, 38, 39], [0, 1, 2, 3]⟩ 7 ⟨[(0, oc (.d (.sl .str w_))), (2, oc (.ptr 0 0)), (5, oc (.ptr 1 0)), (6, oc (.ptr 2 0)), (38, oc (zi t38)), (39, oc (zi (IntKind.wrap .i64 (t39 + 1))))], [(3, some ⟨5, 0⟩)], [(0, [zi t2_0, zi t2_1, zi t2_2, zi t2_3, zi t2_4, zi t2_5, .d (.sl .unit [])]), (1, [.d (.str x_0), .d (.str x_1)]), (2, [zi er239_1_2.1, zi er239_1_2.2.1, zi er239_1_2.2.2.1, zi r251_1.1, zi er239_1_2.2.2.2.2.1, zi er239_1_2.2.2.2.2.2.1, .own 3 (.int .u8) er239_1_2.2.2.2.2.2.2])], 4⟩ [] (by kernel_rfl) trivial ?_
          exact ih w_ t38 (IntKind.wrap .i64 (t39 + 1)) t2_0 t2_1 t2_2 t2_3 t2_4 t2_5 x_0 x_1 er239_1_2.1 er239_1_2.2.1 er239_1_2.2.2.1 r251_1.1 er239_1_2.2.2.2.2.1 er239_1_2.2.2.2.2.2.1 er239_1_2.2.2.2.2.2.2 w h o hk
      · refine At.step hm ht ⟨[(4, .call [2, 3] [] (f71_script_part_v2_out (.inr (.inr (.inr (.inl er239_1_3))))))], [], [], [0, 2, 5, 6, 7, 9, 38, 39], [0, 1, 2, 3]⟩ 11 ⟨[(0, oc (.d (.sl .str w_))), (2, oc (.ptr 0 0)), (5, oc (.ptr 1 0)), (6, oc (.ptr 2 0)), (7, oc (zi t39)), (9, oc (.ptr 2 4)), (38, oc (zi t38)), (39, oc (zi t39))], [(3, some ⟨5, 0⟩)], [(0, [zi t2_0, zi t2_1, zi t2_2, zi t2_3, zi t2_4, zi t2_5, .d (.sl .unit [])]), (1, [.d (.str x_0), .d (.str x_1)]), (2, [zi er239_1_3.1, zi er239_1_3.2.1, zi er239_1_3.2.2.1, zi er239_1_3.2.2.2.1, zi er239_1_3.2.2.2.2.1, zi er239_1_3.2.2.2.2.2.1, .own 3 (.int .u8) er239_1_3.2.2.2.2.2.2])], 4⟩ [(0 : Int) ≤ t39 ∧ t39 < (((x_1).size : Nat) : Int), FnOK Tryd.prog 71 (f71_script_part_v2_in (byteAt x_1 t39) s_0 s_1 s_2 s_3 s_4 s_5 s_6) (f71_script_part_v2_out (.inr (.inr (.inr (.inl er239_1_3)))))] (by kernel_rfl) ⟨g239_0, (f71_script_part_v2_ok (byteAt x_1 t39) s_0 s_1 s_2 s_3 s_4 s_5 s_6 (.inr (.inr (.inr (.inl er239_1_3)))) cr239_1), trivial⟩ ?_
        refine At.step hm ht ⟨[], [true], [], [0, 2, 5, 6, 7, 9, 38, 39], [0, 1, 2, 3]⟩ 12 ⟨[(0, oc (.d (.sl .str w_))), (2, oc (.ptr 0 0)), (5, oc (.ptr 1 0)), (6, oc (.ptr 2 0)), (7, oc (zi t39)), (9, oc (.ptr 2 4)), (38, oc (zi t38)), (39, oc (zi t39))], [(3, some ⟨5, 0⟩)], [(0, [zi t2_0, zi t2_1, zi t2_2, zi t2_3, zi t2_4, zi t2_5, .d (.sl .unit [])]), (1, [.d (.str x_0), .d (.str x_1)]), (2, [zi er239_1_3.1, zi er239_1_3.2.1, zi er239_1_3.2.2.1, zi er239_1_3.2.2.2.1, zi er239_1_3.2.2.2.2.1, zi er239_1_3.2.2.2.2.2.1, .own 3 (.int .u8) er239_1_3.2.2.2.2.2.2])], 4⟩ [true = true] (by kernel_rfl) ⟨rfl, trivial⟩ ?_
        obtain ⟨g256_0, h⟩ := ifS h
        obtain ⟨r256_1, cr256_1, h⟩ := bindS h
        refine At.step hm ht ⟨[(6, .call [] [] (f51_num_Parse_out r256_1))], [], [], [0, 2, 5, 6, 8, 38, 39], [0, 1, 2, 3]⟩ 14 ⟨[(0, oc (.d (.sl .str w_))), (2, oc (.ptr 0 0)), (5, oc (.ptr 1 0)), (6, oc (.ptr 2 0)), (8, oc (zi r256_1.2)), (38, oc (zi t38)), (39, oc (zi t39))], [(3, some ⟨5, 0⟩)], [(0, [zi t2_0, zi t2_1, zi t2_2, zi t2_3, zi t2_4, zi t2_5, .d (.sl .unit [])]), (1, [.d (.str x_0), .d (.str x_1)]), (2, [zi er239_1_3.1, zi er239_1_3.2.1, zi er239_1_3.2.2.1, zi er239_1_3.2.2.2.1, zi r256_1.1, zi er239_1_3.2.2.2.2.2.1, .own 3 (.int .u8) er239_1_3.2.2.2.2.2.2])], 4⟩ [(0 : Int) ≤ (IntKind.wrap .i64 (t39 + 1)) ∧ (IntKind.wrap .i64 (t39 + 1)) < (((w_).length : Nat) : Int), FnOK Tryd.prog 51 (f51_num_Parse_in (w_.getD (IntKind.wrap .i64 (t39 + 1)).toNat ByteArray.empty)) (f51_num_Parse_out r256_1), 4 + 1 ≤ 7] (by kernel_rfl) ⟨g256_0, (f51_num_Parse_ok (w_.getD (IntKind.wrap .i64 (t39 + 1)).toNat ByteArray.empty) r256_1 cr256_1), (by decide), trivial⟩ ?_
        rcases iteS h with ⟨b257_e0, h⟩ | ⟨b257_e0, h⟩
        · refine At.step hm ht ⟨[], [true], [], [2], [0]⟩ 15 ⟨[(2, oc (.ptr 0 0))], [], [(0, [zi t2_0, zi t2_1, zi t2_2, zi t2_3, zi t2_4, zi t2_5, .d (.sl .unit [])])], 1⟩ [((r256_1.2 : Int) != 0) = true] (by kernel_rfl) ⟨b257_e0, trivial⟩ ?_
          have h := Option.some.inj h
          subst h
          have hk : o = f46_script_step_out (false, 0, 0, 0, 0, 0, 0, []) := hk
          subst hk
          exact At.fin hm ht ⟨[], [], [.nil true 0 6 (.int .u8) (some 5)], [2, 3], [0, 4]⟩ [0 + 7 ≤ 7] (by kernel_rfl) ⟨(by decide), trivial⟩
        · refine At.step hm ht ⟨[], [false], [], [0, 2, 5, 6, 38, 39], [0, 1, 2, 3]⟩ 16 ⟨[(0, oc (.d (.sl .str w_))), (2, oc (.ptr 0 0)), (5, oc (.ptr 1 0)), (6, oc (.ptr 2 0)), (38, oc (zi t38)), (39, oc (zi t39))], [(3, some ⟨5, 0⟩)], [(0, [zi t2_0, zi t2_1, zi t2_2, zi t2_3, zi t2_4, zi t2_5, .d (.sl .unit [])]), (1, [.d (.str x_0), .d (.str x_1)]), (2, [zi er239_1_3.1, zi er239_1_3.2.1, zi er239_1_3.2.2.1, zi er239_1_3.2.2.2.1, zi r256_1.1, zi er239_1_3.2.2.2.2.2.1, .own 3 (.int .u8) er239_1_3.2.2.2.2.2.2])], 4⟩ [((r256_1.2 : Int) != 0) = false] (by kernel_rfl) ⟨b257_e0, trivial⟩ ?_
          refine At.step hm ht ⟨[], [], [], [0, 2, 5, 6, 38, 39], [0, 1, 2, 3]⟩ 7 ⟨[(0, oc (.d (.sl .str w_))), (2, oc (.ptr 0 0)), (5, oc (.ptr 1 0)), (6, oc (.ptr 2 0)), (38, oc (zi t38)), (39, oc (zi (IntKind.wrap .i64 (t39 + 1))))], [(3, some ⟨5, 0⟩)], [(0, [zi t2_0, zi t2_1, zi t2_2, zi t2_3, zi t2_4, zi t2_5, .d (.sl .unit [])]), (1, [.d (.str x_0), .d (.str x_1)]), (2, [zi er239_1_3.1, zi er239_1_3.2.1, zi er239_1_3.2.2.1, zi er239_1_3.2.2.2.1, zi r256_1.1, zi er239_1_3.2.2.2.2.2.1, .own 3 (.int .u8) er239_1_3.2.2.2.2.2.2])], 4⟩ [] (by kernel_rfl) trivial ?_
          exact ih w_ t38 (IntKind.wrap .i64 (t39 + 1)) t2_0 t2_1 t2_2 t2_3 t2_4 t2_5 x_0 x_1 er239_1_3.1 er239_1_3.2.1 er239_1_3.2.2.1 er239_1_3.2.2.2.1 r256_1.1 er239_1_3.2.2.2.2.2.1 er239_1_3.2.2.2.2.2.2 w h o hk
      · refine At.step hm ht ⟨[(4, .call [2, 3] [] (f71_script_part_v2_out (.inr (.inr (.inr (.inr (.inl er239_1_4)))))))], [], [], [0, 2, 5, 6, 7, 9, 38, 39], [0, 1, 2, 3]⟩ 11 ⟨[(0, oc (.d (.sl .str w_))), (2, oc (.ptr 0 0)), (5, oc (.ptr 1 0)), (6, oc (.ptr 2 0)), (7, oc (zi t39)), (9, oc (.ptr 2 5)), (38, oc (zi t38)), (39, oc (zi t39))], [(3, some ⟨5, 0⟩)], [(0, [zi t2_0, zi t2_1, zi t2_2, zi t2_3, zi t2_4, zi t2_5, .d (.sl .unit [])]), (1, [.d (.str x_0), .d (.str x_1)]), (2, [zi er239_1_4.1, zi er239_1_4.2.1, zi er239_1_4.2.2.1, zi er239_1_4.2.2.2.1, zi er239_1_4.2.2.2.2.1, zi er239_1_4.2.2.2.2.2.1, .own 3 (.int .u8) er239_1_4.2.2.2.2.2.2])], 4⟩ [(0 : Int) ≤ t39 ∧ t39 < (((x_1).size : Nat) : Int), FnOK Tryd.prog 71 (f71_script_part_v2_in (byteAt x_1 t39) s_0 s_1 s_2 s_3 s_4 s_5 s_6) (f71_script_part_v2_out (.inr (.inr (.inr (.inr (.inl er239_1_4))))))] (by kernel_rfl) ⟨g239_0, (f71_script_part_v2_ok (byteAt x_1 t39) s_0 s_1 s_2 s_3 s_4 s_5 s_6 (.inr (.inr (.inr (.inr (.inl er239_1_4))))) cr239_1), trivial⟩ ?_
        refine At.step hm ht ⟨[], [true], [], [0, 2, 5, 6, 7, 9, 38, 39], [0, 1, 2, 3]⟩ 12 ⟨[(0, oc (.d (.sl .str w_))), (2, oc (.ptr 0 0)), (5, oc (.ptr 1 0)), (6, oc (.ptr 2 0)), (7, oc (zi t39)), (9, oc (.ptr 2 5)), (38, oc (zi t38)), (39, oc (zi t39))], [(3, some ⟨5, 0⟩)], [(0, [zi t2_0, zi t2_1, zi t2_2, zi t2_3, zi t2_4, zi t2_5, .d (.sl .unit [])]), (1, [.d (.str x_0), .d (.str x_1)]), (2, [zi er239_1_4.1, zi er239_1_4.2.1, zi er239_1_4.2.2.1, zi er239_1_4.2.2.2.1, zi er239_1_4.2.2.2.2.1, zi er239_1_4.2.2.2.2.2.1, .own 3 (.int .u8) er239_1_4.2.2.2.2.2.2])], 4⟩ [true = true] (by kernel_rfl) ⟨rfl, trivial⟩ ?_
        obtain ⟨g261_0, h⟩ := ifS h
        obtain ⟨r261_1, cr261_1, h⟩ := bindS h
        refine At.step hm ht ⟨[(6, .call [] [] (f51_num_Parse_out r261_1))], [], [], [0, 2, 5, 6, 8, 38, 39], [0, 1, 2, 3]⟩ 14 ⟨[(0, oc (.d (.sl .str w_))), (2, oc (.ptr 0 0)), (5, oc (.ptr 1 0)), (6, oc (.ptr 2 0)), (8, oc (zi r261_1.2)), (38, oc (zi t38)), (39, oc (zi t39))], [(3, some ⟨5, 0⟩)], [(0, [zi t2_0, zi t2_1, zi t2_2, zi t2_3, zi t2_4, zi t2_5, .d (.sl .unit [])]), (1, [.d (.str x_0), .d (.str x_1)]), (2, [zi er239_1_4.1, zi er239_1_4.2.1, zi er239_1_4.2.2.1, zi er239_1_4.2.2.2.1, zi er239_1_4.2.2.2.2.1, zi r261_1.1, .own 3 (.int .u8) er239_1_4.2.2.2.2.2.2])], 4⟩ [(0 : Int) ≤ (IntKind.wrap .i64 (t39 + 1)) ∧ (IntKind.wrap .i64 (t39 + 1)) < (((w_).length : Nat) : Int), FnOK Tryd.prog 51 (f51_num_Parse_in (w_.getD (IntKind.wrap .i64 (t39 + 1)).toNat ByteArray.empty)) (f51_num_Parse_out r261_1), 5 + 1 ≤ 7] (by kernel_rfl) ⟨g261_0, (f51_num_Parse_ok (w_.getD (IntKind.wrap .i64 (t39 + 1)).toNat ByteArray.empty) r261_1 cr261_1), (by decide), trivial⟩ ?_
        rcases iteS h with ⟨b262_e0, h⟩ | ⟨b262_e0, h⟩
        · refine At.step hm ht ⟨[], [true], [], [2], [0]⟩ 15 ⟨[(2, oc (.ptr 0 0))], [], [(0, [zi t2_0, zi t2_1, zi t2_2, zi t2_3, zi t2_4, zi t2_5, .d (.sl .unit [])])], 1⟩ [((r261_1.2 : Int) != 0) = true] (by kernel_rfl) ⟨b262_e0, trivial⟩ ?_
          have h := Option.some.inj h
          subst h
          have hk : o = f46_script_step_out (false, 0, 0, 0, 0, 0, 0, []) := hk
          subst hk
          exact At.fin hm ht ⟨[], [], [.nil true 0 6 (.int .u8) (some 5)], [2, 3], [0, 4]⟩ [0 + 7 ≤ 7] (by kernel_rfl) ⟨(by decide), trivial⟩
        · refine At.step hm ht ⟨[], [false], [], [0, 2, 5, 6, 38, 39], [0, 1, 2, 3]⟩ 16 ⟨[(0, oc (.d (.sl .str w_))), (2, oc (.ptr 0 0)), (5, oc (.ptr 1 0)), (6, oc (.ptr 2 0)), (38, oc (zi t38)), (39, oc (zi t39))], [(3, some ⟨5, 0⟩)], [(0, [zi t2_0, zi t2_1, zi t2_2, zi t2_3, zi t2_4, zi t2_5, .d (.sl .unit [])]), (1, [.d (.str x_0), .d (.str x_1)]), (2, [zi er239_1_4.1, zi er239_1_4.2.1, zi er239_1_4.2.2.1, zi er239_1_4.2.2.2.1, zi er239_1_4.2.2.2.2.1, zi r261_1.1, .own 3 (.int .u8) er239_1_4.2.2.2.2.2.2])], 4⟩ [((r261_1.2 : Int) != 0) = false] (by kernel_rfl) ⟨b262_e0, trivial⟩ ?_
          refine At.step hm ht ⟨[], [], [], [0, 2, 5, 6, 38, 39], [0, 1, 2, 3]⟩ 7 ⟨[(0, oc (.d (.sl .str w_))), (2, oc (.ptr 0 0)), (5, oc (.ptr 1 0)), (6, oc (.ptr 2 0)), (38, oc (zi t38)), (39, oc (zi (IntKind.wrap .i64 (t39 + 1))))], [(3, some ⟨5, 0⟩)], [(0, [zi t2_0, zi t2_1, zi t2_2, zi t2_3, zi t2_4, zi t2_5, .d (.sl .unit [])]), (1, [.d (.str x_0), .d (.str x_1)]), (2, [zi er239_1_4.1, zi er239_1_4.2.1, zi er239_1_4.2.2.1, zi er239_1_4.2.2.2.1, zi er239_1_4.2.2.2.2.1, zi r261_1.1, .own 3 (.int .u8) er239_1_4.2.2.2.2.2.2])], 4⟩ [] (by kernel_rfl) trivial ?_
          exact ih w_ t38 (IntKind.wrap .i64 (t39 + 1)) t2_0 t2_1 t2_2 t2_3 t2_4 t2_5 x_0 x_1 er239_1_4.1 er239_1_4.2.1 er239_1_4.2.2.1 er239_1_4.2.2.2.1 er239_1_4.2.2.2.2.1 r261_1.1 er239_1_4.2.2.2.2.2.2 w h o hk
      · refine At.step hm ht ⟨[(4, .call [2, 3] [] (f71_script_part_v2_out (.inr (.inr (.inr (.inr (.inr er239_1_5)))))))], [], [], [0, 2, 5, 6, 7, 9, 38, 39], [0, 1, 2, 3]⟩ 11 ⟨[(0, oc (.d (.sl .str w_))), (2, oc (.ptr 0 0)), (5, oc (.ptr 1 0)), (6, oc (.ptr 2 0)), (7, oc (zi t39)), (9, oc (.d (.nilP))), (38, oc (zi t38)), (39, oc (zi t39))], [(3, some ⟨5, 0⟩)], [(0, [zi t2_0, zi t2_1, zi t2_2, zi t2_3, zi t2_4, zi t2_5, .d (.sl .unit [])]), (1, [.d (.str x_0), .d (.str x_1)]), (2, [zi er239_1_5.1, zi er239_1_5.2.1, zi er239_1_5.2.2.1, zi er239_1_5.2.2.2.1, zi er239_1_5.2.2.2.2.1, zi er239_1_5.2.2.2.2.2.1, .own 3 (.int .u8) er239_1_5.2.2.2.2.2.2])], 4⟩ [(0 : Int) ≤ t39 ∧ t39 < (((x_1).size : Nat) : Int), FnOK Tryd.prog 71 (f71_script_part_v2_in (byteAt x_1 t39) s_0 s_1 s_2 s_3 s_4 s_5 s_6) (f71_script_part_v2_out (.inr (.inr (.inr (.inr (.inr er239_1_5))))))] (by kernel_rfl) ⟨g239_0, (f71_script_part_v2_ok (byteAt x_1 t39) s_0 s_1 s_2 s_3 s_4 s_5 s_6 (.inr (.inr (.inr (.inr (.inr er239_1_5))))) cr239_1), trivial⟩ ?_
        refine At.step hm ht ⟨[], [false], [], [0, 2, 5, 6, 7, 38, 39], [0, 1, 2, 3]⟩ 13 ⟨[(0, oc (.d (.sl .str w_))), (2, oc (.ptr 0 0)), (5, oc (.ptr 1 0)), (6, oc (.ptr 2 0)), (7, oc (zi t39)), (38, oc (zi t38)), (39, oc (zi t39))], [(3, some ⟨5, 0⟩)], [(0, [zi t2_0, zi t2_1, zi t2_2, zi t2_3, zi t2_4, zi t2_5, .d (.sl .unit [])]), (1, [.d (.str x_0), .d (.str x_1)]), (2, [zi er239_1_5.1, zi er239_1_5.2.1, zi er239_1_5.2.2.1, zi er239_1_5.2.2.2.1, zi er239_1_5.2.2.2.2.1, zi er239_1_5.2.2.2.2.2.1, .own 3 (.int .u8) er239_1_5.2.2.2.2.2.2])], 4⟩ [false = false] (by kernel_rfl) ⟨rfl, trivial⟩ ?_
        obtain ⟨g266_0, h⟩ := ifS h
        obtain ⟨r266_1, cr266_1, h⟩ := bindS h
        refine At.step hm ht ⟨[(5, .call [] [] (f77_num_Unhex_out r266_1))], [], [], [0, 2, 5, 6, 8, 38, 39], [0, 1, 2, 9]⟩ 14 ⟨[(0, oc (.d (.sl .str w_))), (2, oc (.ptr 0 0)), (5, oc (.ptr 1 0)), (6, oc (.ptr 2 0)), (8, oc (zi r266_1.2)), (38, oc (zi t38)), (39, oc (zi t39))], [(3, some ⟨5, 0⟩)], [(0, [zi t2_0, zi t2_1, zi t2_2, zi t2_3, zi t2_4, zi t2_5, .d (.sl .unit [])]), (1, [.d (.str x_0), .d (.str x_1)]), (2, [zi er239_1_5.1, zi er239_1_5.2.1, zi er239_1_5.2.2.1, zi er239_1_5.2.2.2.1, zi er239_1_5.2.2.2.2.1, zi er239_1_5.2.2.2.2.2.1, .own 3 (.int .u8) r266_1.1])], 4⟩ [(0 : Int) ≤ (IntKind.wrap .i64 (t39 + 1)) ∧ (IntKind.wrap .i64 (t39 + 1)) < (((w_).length : Nat) : Int), FnOK Tryd.prog 77 (f77_num_Unhex_in (w_.getD (IntKind.wrap .i64 (t39 + 1)).toNat ByteArray.empty)) (f77_num_Unhex_out r266_1), 6 + 1 ≤ 7] (by kernel_rfl) ⟨g266_0, (f77_num_Unhex_ok n (w_.getD (IntKind.wrap .i64 (t39 + 1)).toNat ByteArray.empty) r266_1 cr266_1), (by decide), trivial⟩ ?_
        rcases iteS h with ⟨b267_e0, h⟩ | ⟨b267_e0, h⟩
        · refine At.step hm ht ⟨[], [true], [], [2], [0]⟩ 15 ⟨[(2, oc (.ptr 0 0))], [], [(0, [zi t2_0, zi t2_1, zi t2_2, zi t2_3, zi t2_4, zi t2_5, .d (.sl .unit [])])], 1⟩ [((r266_1.2 : Int) != 0) = true] (by kernel_rfl) ⟨b267_e0, trivial⟩ ?_
          have h := Option.some.inj h
          subst h
          have hk : o = f46_script_step_out (false, 0, 0, 0, 0, 0, 0, []) := hk
          subst hk
          exact At.fin hm ht ⟨[], [], [.nil true 0 6 (.int .u8) (some 5)], [2, 3], [0, 4]⟩ [0 + 7 ≤ 7] (by kernel_rfl) ⟨(by decide), trivial⟩
        · refine At.step hm ht ⟨[], [false], [], [0, 2, 5, 6, 38, 39], [0, 1, 2, 3]⟩ 16 ⟨[(0, oc (.d (.sl .str w_))), (2, oc (.ptr 0 0)), (5, oc (.ptr 1 0)), (6, oc (.ptr 2 0)), (38, oc (zi t38)), (39, oc (zi t39))], [(3, some ⟨5, 0⟩)], [(0, [zi t2_0, zi t2_1, zi t2_2, zi t2_3, zi t2_4, zi t2_5, .d (.sl .unit [])]), (1, [.d (.str x_0), .d (.str x_1)]), (2, [zi er239_1_5.1, zi er239_1_5.2.1, zi er239_1_5.2.2.1, zi er239_1_5.2.2.2.1, zi er239_1_5.2.2.2.2.1, zi er239_1_5.2.2.2.2.2.1, .own 3 (.int .u8) r266_1.1])], 4⟩ [((r266_1.2 : Int) != 0) = false] (by kernel_rfl) ⟨b267_e0, trivial⟩ ?_
          refine At.step hm ht ⟨[], [], [], [0, 2, 5, 6, 38, 39], [0, 1, 2, 3]⟩ 7 ⟨[(0, oc (.d (.sl .str w_))), (2, oc (.ptr 0 0)), (5, oc (.ptr 1 0)), (6, oc (.ptr 2 0)), (38, oc (zi t38)), (39, oc (zi (IntKind.wrap .i64 (t39 + 1))))], [(3, some ⟨5, 0⟩)], [(0, [zi t2_0, zi t2_1, zi t2_2, zi t2_3, zi t2_4, zi t2_5, .d (.sl .unit [])]), (1, [.d (.str x_0), .d (.str x_1)]), (2, [zi er239_1_5.1, zi er239_1_5.2.1, zi er239_1_5.2.2.1, zi er239_1_5.2.2.2.1, zi er239_1_5.2.2.2.2.1, zi er239_1_5.2.2.2.2.2.1, .own 3 (.int .u8) r266_1.1])], 4⟩ [] (by kernel_rfl) trivial ?_
          exact ih w_ t38 (IntKind.wrap .i64 (t39 + 1)) t2_0 t2_1 t2_2 t2_3 t2_4 t2_5 x_0 x_1 er239_1_5.1 er239_1_5.2.1 er239_1_5.2.2.1 er239_1_5.2.2.2.1 er239_1_5.2.2.2.2.1 er239_1_5.2.2.2.2.2.1 r266_1.1 w h o hk
    · refine At.step hm ht ⟨[], [false], [], [2, 6], [0, 2, 3]⟩ 17 ⟨[(2, oc (.ptr 0 0)), (6, oc (.ptr 1 0))], [(2, some ⟨5, 0⟩)], [(0, [zi t2_0, zi t2_1, zi t2_2, zi t2_3, zi t2_4, zi t2_5, .d (.sl .unit [])]), (1, [zi s_0, zi s_1, zi s_2, zi s_3, zi s_4, zi s_5, .own 2 (.int .u8) s_6])], 3⟩ [(decide ((t39 : Int) < t38)) = false] (by kernel_rfl) ⟨b236_e0, trivial⟩ ?_
      have h := Option.some.inj h
      subst h
      exact hk
def f46_script_step_L2 : Nat → (List ByteArray) → ByteArray → ByteArray → ByteArray → ByteArray → ByteArray → ByteArray → ByteArray → ByteArray → ByteArray → ByteArray → ByteArray → ByteArray → ByteArray → ByteArray → ByteArray → ByteArray → ByteArray → ByteArray → ByteArray → ByteArray → ByteArray → ByteArray → ByteArray → ByteArray → ByteArray → ByteArray → ByteArray → ByteArray → ByteArray → ByteArray → ByteArray → ByteArray → ByteArray → ByteArray → Int → Int → Int → Int → Int → Int → Int → Option ((Bool × Int × Int × Int × Int × Int × Int × List Int) ⊕ (Int × Int × Int × Int × Int × Int))
  | 0, _, _, _, _, _, _, _, _, _, _, _, _, _, _, _, _, _, _, _, _, _, _, _, _, _, _, _, _, _, _, _, _, _, _, _, _, _, _, _, _, _, _ => none
  | n + 1, w_, t10_0, t10_1, t10_2, t10_3, t10_4, t10_5, t10_6, t10_7, t10_8, t10_9, t10_10, t10_11, t10_12, t10_13, t10_14, t10_15, t10_16, t10_17, t10_18, t10_19, t10_20, t10_21, t10_22, t10_23, t10_24, t10_25, t10_26, t10_27, t10_28, t10_29, t10_30, t10_31, t10_32, t10_33, t11, t2_0, t2_1, t2_2, t2_3, t2_4, t2_5 =>
    if (decide ((t11 : Int) < 17)) = true then
      if (0 : Int) ≤ t11 ∧ t11 < 17 then
      if ((t11 : Int) == 0) = true then
        f46_script_step_L2 n w_ t10_0 t10_1 t10_2 t10_3 t10_4 t10_5 t10_6 t10_7 t10_8 t10_9 t10_10 t10_11 t10_12 t10_13 t10_14 t10_15 t10_16 t10_17 t10_18 t10_19 t10_20 t10_21 t10_22 t10_23 t10_24 t10_25 t10_26 t10_27 t10_28 t10_29 t10_30 t10_31 t10_32 t10_33 (IntKind.wrap .i64 (t11 + 1)) t2_0 t2_1 t2_2 t2_3 t2_4 t2_5
      else
        if (0 : Int) ≤ 0 ∧ 0 < (((w_).length : Nat) : Int) then
        if (!((([t10_0, t10_1, t10_2, t10_3, t10_4, t10_5, t10_6, t10_7, t10_8, t10_9, t10_10, t10_11, t10_12, t10_13, t10_14, t10_15, t10_16, t10_17, t10_18, t10_19, t10_20, t10_21, t10_22, t10_23, t10_24, t10_25, t10_26, t10_27, t10_28, t10_29, t10_30, t10_31, t10_32, t10_33] : List ByteArray).getD (t11.toNat * 2 + 0) ByteArray.empty).toList == (w_.getD 0 ByteArray.empty).toList)) = true then
          f46_script_step_L2 n w_ t10_0 t10_1 t10_2 t10_3 t10_4 t10_5 t10_6 t10_7 t10_8 t10_9 t10_10 t10_11 t10_12 t10_13 t10_14 t10_15 t10_16 t10_17 t10_18 t10_19 t10_20 t10_21 t10_22 t10_23 t10_24 t10_25 t10_26 t10_27 t10_28 t10_29 t10_30 t10_31 t10_32 t10_33 (IntKind.wrap .i64 (t11 + 1)) t2_0 t2_1 t2_2 t2_3 t2_4 t2_5
        else
          if ((((w_.length : Nat) : Int) : Int) != (IntKind.wrap .i64 (1 + (((([t10_0, t10_1, t10_2, t10_3, t10_4, t10_5, t10_6, t10_7, t10_8, t10_9, t10_10, t10_11, t10_12, t10_13, t10_14, t10_15, t10_16, t10_17, t10_18, t10_19, t10_20, t10_21, t10_22, t10_23, t10_24, t10_25, t10_26, t10_27, t10_28, t10_29, t10_30, t10_31, t10_32, t10_33] : List ByteArray).getD (t11.toNat * 2 + 1) ByteArray.empty).size : Nat) : Int)))) = true then
            f46_script_step_L2 n w_ t10_0 t10_1 t10_2 t10_3 t10_4 t10_5 t10_6 t10_7 t10_8 t10_9 t10_10 t10_11 t10_12 t10_13 t10_14 t10_15 t10_16 t10_17 t10_18 t10_19 t10_20 t10_21 t10_22 t10_23 t10_24 t10_25 t10_26 t10_27 t10_28 t10_29 t10_30 t10_31 t10_32 t10_33 (IntKind.wrap .i64 (t11 + 1)) t2_0 t2_1 t2_2 t2_3 t2_4 t2_5
          else
            (f46_script_step_L7 n w_ (((([t10_0, t10_1, t10_2, t10_3, t10_4, t10_5, t10_6, t10_7, t10_8, t10_9, t10_10, t10_11, t10_12, t10_13, t10_14, t10_15, t10_16, t10_17, t10_18, t10_19, t10_20, t10_21, t10_22, t10_23, t10_24, t10_25, t10_26, t10_27, t10_28, t10_29, t10_30, t10_31, t10_32, t10_33] : List ByteArray).getD (t11.toNat * 2 + 1) ByteArray.empty).size : Nat) : Int) 0 t2_0 t2_1 t2_2 t2_3 t2_4 t2_5 (([t10_0, t10_1, t10_2, t10_3, t10_4, t10_5, t10_6, t10_7, t10_8, t10_9, t10_10, t10_11, t10_12, t10_13, t10_14, t10_15, t10_16, t10_17, t10_18, t10_19, t10_20, t10_21, t10_22, t10_23, t10_24, t10_25, t10_26, t10_27, t10_28, t10_29, t10_30, t10_31, t10_32, t10_33] : List ByteArray).getD (t11.toNat * 2 + 0) ByteArray.empty) (([t10_0, t10_1, t10_2, t10_3, t10_4, t10_5, t10_6, t10_7, t10_8, t10_9, t10_10, t10_11, t10_12, t10_13, t10_14, t10_15, t10_16, t10_17, t10_18, t10_19, t10_20, t10_21, t10_22, t10_23, t10_24, t10_25, t10_26, t10_27, t10_28, t10_29, t10_30, t10_31, t10_32, t10_33] : List ByteArray).getD (t11.toNat * 2 + 1) ByteArray.empty) t11 0 0 0 0 0 []).bind fun w270 =>
            match w270 with
            | .inl e271 =>
              some (.inl (e271.1, e271.2.1, e271.2.2.1, e271.2.2.2.1, e271.2.2.2.2.1, e271.2.2.2.2.2.1, e271.2.2.2.2.2.2.1, e271.2.2.2.2.2.2.2))
            | .inr e272 =>
              some (.inl (true, e272.2.2.2.2.2.2.1, e272.2.2.2.2.2.2.2.1, e272.2.2.2.2.2.2.2.2.1, e272.2.2.2.2.2.2.2.2.2.1, e272.2.2.2.2.2.2.2.2.2.2.1, e272.2.2.2.2.2.2.2.2.2.2.2.1, e272.2.2.2.2.2.2.2.2.2.2.2.2))
        else none
      else none
    else
      some (.inr ((t2_0, t2_1, t2_2, t2_3, t2_4, t2_5)))
def f46_script_step_L2_k (w : (Bool × Int × Int × Int × Int × Int × Int × List Int) ⊕ (Int × Int × Int × Int × Int × Int)) (o : Out) : Prop := match w with
  | .inl e => o = f46_script_step_out e
  | .inr e => At Tryd.prog Tryd.f46 0 19 ⟨[(2, oc (.ptr 0 0))], [], [(0, [zi e.1, zi e.2.1, zi e.2.2.1, zi e.2.2.2.1, zi e.2.2.2.2.1, zi e.2.2.2.2.2, .d (.sl .unit [])])], 1⟩ o
theorem f46_script_step_L2_ok (n : Nat) : ∀ (w_ : List ByteArray) (t10_0 : ByteArray) (t10_1 : ByteArray) (t10_2 : ByteArray) (t10_3 : ByteArray) (t10_4 : ByteArray) (t10_5 : ByteArray) (t10_6 : ByteArray) (t10_7 : ByteArray) (t10_8 : ByteArray) (t10_9 : ByteArray) (t10_10 : ByteArray) (t10_11 : ByteArray) (t10_12 : ByteArray) (t10_13 : ByteArray) (t10_14 : ByteArray) (t10_15 : ByteArray) (t10_16 : ByteArray) (t10_17 : ByteArray) (t10_18 : ByteArray) (t10_19 : ByteArray) (t10_20 : ByteArray) (t10_21 : ByteArray) (t10_22 : ByteArray) (t10_23 : ByteArray) (t10_24 : ByteArray) (t10_25 : ByteArray) (t10_26 : ByteArray) (t10_27 : ByteArray) (t10_28 : ByteArray) (t10_29 : ByteArray) (t10_30 : ByteArray) (t10_31 : ByteArray) (t10_32 : ByteArray) (t10_33 : ByteArray) (t11 : Int) (t2_0 : Int) (t2_1 : Int) (t2_2 : Int) (t2_3 : Int) (t2_4 : Int) (t2_5 : Int) (w : (Bool × Int × Int × Int × Int × Int × Int × List Int) ⊕ (Int × Int × Int × Int × Int × Int)) (h : f46_script_step_L2 n w_ t10_0 t10_1 t10_2 t10_3 t10_4 t10_5 t10_6 t10_7 t10_8 t10_9 t10_10 t10_11 t10_12 t10_13 t10_14 t10_15 t10_16 t10_17 t10_18 t10_19 t10_20 t10_21 t10_22 t10_23 t10_24 t10_25 t10_26 t10_27 t10_28 t10_29 t10_30 t10_31 t10_32 t10_33 t11 t2_0 t2_1 t2_2 t2_3 t2_4 t2_5 = some w) (o : Out) (hk : f46_script_step_L2_k w o), At Tryd.prog Tryd.f46 0 2 ⟨[(0, oc (.d (.sl .str w_))), (2, oc (.ptr 0 0)), (10, .one (.agg [.d (.str t10_0), .d (.str t10_1), .d (.str t10_2), .d (.str t10_3), .d (.str t10_4), .d (.str t10_5), .d (.str t10_6), .d (.str t10_7), .d (.str t10_8), .d (.str t10_9), .d (.str t10_10), .d (.str t10_11), .d (.str t10_12), .d (.str t10_13), .d (.str t10_14), .d (.str t10_15), .d (.str t10_16), .d (.str t10_17), .d (.str t10_18), .d (.str t10_19), .d (.str t10_20), .d (.str t10_21), .d (.str t10_22), .d (.str t10_23), .d (.str t10_24), .d (.str t10_25), .d (.str t10_26), .d (.str t10_27), .d (.str t10_28), .d (.str t10_29), .d (.str t10_30), .d (.str t10_31), .d (.str t10_32), .d (.str t10_33)])), (11, oc (zi t11))], [], [(0, [zi t2_0, zi t2_1, zi t2_2, zi t2_3, zi t2_4, zi t2_5, .d (.sl .unit [])])], 1⟩ o := by
  induction n with
  | zero => intro w_ t10_0 t10_1 t10_2 t10_3 t10_4 t10_5 t10_6 t10_7 t10_8 t10_9 t10_10 t10_11 t10_12 t10_13 t10_14 t10_15 t10_16 t10_17 t10_18 t10_19 t10_20 t10_21 t10_22 t10_23 t10_24 t10_25 t10_26 t10_27 t10_28 t10_29 t10_30 t10_31 t10_32 t10_33 t11 t2_0 t2_1 t2_2 t2_3 t2_4 t2_5 w h; rw [f46_script_step_L2] at h; cases h
  | succ n ih =>
    intro w_ t10_0 t10_1 t10_2 t10_3 t10_4 t10_5 t10_6 t10_7 t10_8 t10_9 t10_10 t10_11 t10_12 t10_13 t10_14 t10_15 t10_16 t10_17 t10_18 t10_19 t10_20 t10_21 t10_22 t10_23 t10_24 t10_25 t10_26 t10_27 t10_28 t10_29 t10_30 t10_31 t10_32 t10_33 t11 t2_0 t2_1 t2_2 t2_3 t2_4 t2_5 w h o hk
    rw [f46_script_step_L2] at h
    rcases iteS h with ⟨b228_e0, h⟩ | ⟨b228_e0, h⟩
    · refine At.step hm ht ⟨[], [true], [], [0, 2, 10, 11], [0]⟩ 3 ⟨[(0, oc (.d (.sl .str w_))), (2, oc (.ptr 0 0)), (10, .one (.agg [.d (.str t10_0), .d (.str t10_1), .d (.str t10_2), .d (.str t10_3), .d (.str t10_4), .d (.str t10_5), .d (.str t10_6), .d (.str t10_7), .d (.str t10_8), .d (.str t10_9), .d (.str t10_10), .d (.str t10_11), .d (.str t10_12), .d (.str t10_13), .d (.str t10_14), .d (.str t10_15), .d (.str t10_16), .d (.str t10_17), .d (.str t10_18), .d (.str t10_19), .d (.str t10_20), .d (.str t10_21), .d (.str t10_22), .d (.str t10_23), .d (.str t10_24), .d (.str t10_25), .d (.str t10_26), .d (.str t10_27), .d (.str t10_28), .d (.str t10_29), .d (.str t10_30), .d (.str t10_31), .d (.str t10_32), .d (.str t10_33)])), (11, oc (zi t11))], [], [(0, [zi t2_0, zi t2_1, zi t2_2, zi t2_3, zi t2_4, zi t2_5, .d (.sl .unit [])])], 1⟩ [(decide ((t11 : Int) < 17)) = true] (by kernel_rfl) ⟨b228_e0, trivial⟩ ?_
      obtain ⟨g229_0, h⟩ := ifS h
      refine At.step hm ht ⟨[], [], [], [0, 2, 4, 5, 10, 11], [0, 3]⟩ 4 ⟨[(0, oc (.d (.sl .str w_))), (2, oc (.ptr 0 0)), (4, oc (zi t11)), (5, oc (.ptr 1 0)), (10, .one (.agg [.d (.str t10_0), .d (.str t10_1), .d (.str t10_2), .d (.str t10_3), .d (.str t10_4), .d (.str t10_5), .d (.str t10_6), .d (.str t10_7), .d (.str t10_8), .d (.str t10_9), .d (.str t10_10), .d (.str t10_11), .d (.str t10_12), .d (.str t10_13), .d (.str t10_14), .d (.str t10_15), .d (.str t10_16), .d (.str t10_17), .d (.str t10_18), .d (.str t10_19), .d (.str t10_20), .d (.str t10_21), .d (.str t10_22), .d (.str t10_23), .d (.str t10_24), .d (.str t10_25), .d (.str t10_26), .d (.str t10_27), .d (.str t10_28), .d (.str t10_29), .d (.str t10_30), .d (.str t10_31), .d (.str t10_32), .d (.str t10_33)])), (11, oc (zi t11))], [], [(0, [zi t2_0, zi t2_1, zi t2_2, zi t2_3, zi t2_4, zi t2_5, .d (.sl .unit [])]), (1, [.d (.str (([t10_0, t10_1, t10_2, t10_3, t10_4, t10_5, t10_6, t10_7, t10_8, t10_9, t10_10, t10_11, t10_12, t10_13, t10_14, t10_15, t10_16, t10_17, t10_18, t10_19, t10_20, t10_21, t10_22, t10_23, t10_24, t10_25, t10_26, t10_27, t10_28, t10_29, t10_30, t10_31, t10_32, t10_33] : List ByteArray).getD (t11.toNat * 2 + 0) ByteArray.empty)), .d (.str (([t10_0, t10_1, t10_2, t10_3, t10_4, t10_5, t10_6, t10_7, t10_8, t10_9, t10_10, t10_11, t10_12, t10_13, t10_14, t10_15, t10_16, t10_17, t10_18, t10_19, t10_20, t10_21, t10_22, t10_23, t10_24, t10_25, t10_26, t10_27, t10_28, t10_29, t10_30, t10_31, t10_32, t10_33] : List ByteArray).getD (t11.toNat * 2 + 1) ByteArray.empty))])], 2⟩ [(0 : Int) ≤ t11 ∧ t11 < 17, 0 + 2 ≤ 2] (by kernel_rfl) ⟨g229_0, (by decide), trivial⟩ ?_
      rcases iteS h with ⟨b230_2, h⟩ | ⟨b230_2, h⟩
      · refine At.step hm ht ⟨[(2, .b true)], [true], [], [0, 2, 10, 11], [0]⟩ 18 ⟨[(0, oc (.d (.sl .str w_))), (2, oc (.ptr 0 0)), (10, .one (.agg [.d (.str t10_0), .d (.str t10_1), .d (.str t10_2), .d (.str t10_3), .d (.str t10_4), .d (.str t10_5), .d (.str t10_6), .d (.str t10_7), .d (.str t10_8), .d (.str t10_9), .d (.str t10_10), .d (.str t10_11), .d (.str t10_12), .d (.str t10_13), .d (.str t10_14), .d (.str t10_15), .d (.str t10_16), .d (.str t10_17), .d (.str t10_18), .d (.str t10_19), .d (.str t10_20), .d (.str t10_21), .d (.str t10_22), .d (.str t10_23), .d (.str t10_24), .d (.str t10_25), .d (.str t10_26), .d (.str t10_27), .d (.str t10_28), .d (.str t10_29), .d (.str t10_30), .d (.str t10_31), .d (.str t10_32), .d (.str t10_33)])), (11, oc (zi t11))], [], [(0, [zi t2_0, zi t2_1, zi t2_2, zi t2_3, zi t2_4, zi t2_5, .d (.sl .unit [])])], 1⟩ [((t11 : Int) == 0) = true, true = true] (by kernel_rfl) ⟨b230_2, rfl, trivial⟩ ?_
        refine At.step hm ht ⟨[], [], [], [0, 2, 10, 11], [0]⟩ 2 ⟨[(0, oc (.d (.sl .str w_))), (2, oc (.ptr 0 0)), (10, .one (.agg [.d (.str t10_0), .d (.str t10_1), .d (.str t10_2), .d (.str t10_3), .d (.str t10_4), .d (.str t10_5), .d (.str t10_6), .d (.str t10_7), .d (.str t10_8), .d (.str t10_9), .d (.str t10_10), .d (.str t10_11), .d (.str t10_12), .d (.str t10_13), .d (.str t10_14), .d (.str t10_15), .d (.str t10_16), .d (.str t10_17), .d (.str t10_18), .d (.str t10_19), .d (.str t10_20), .d (.str t10_21), .d (.str t10_22), .d (.str t10_23), .d (.str t10_24), .d (.str t10_25), .d (.str t10_26), .d (.str t10_27), .d (.str t10_28), .d (.str t10_29), .d (.str t10_30), .d (.str t10_31), .d (.str t10_32), .d (.str t10_33)])), (11, oc (zi (IntKind.wrap .i64 (t11 + 1))))], [], [(0, [zi t2_0, zi t2_1, zi t2_2, zi t2_3, zi t2_4, zi t2_5, .d (.sl .unit [])])], 1⟩ [] (by kernel_rfl) trivial ?_
        exact ih w_ t10_0 t10_1 t10_2 t10_3 t10_4 t10_5 t10_6 t10_7 t10_8 t10_9 t10_10 t10_11 t10_12 t10_13 t10_14 t10_15 t10_16 t10_17 t10_18 t10_19 t10_20 t10_21 t10_22 t10_23 t10_24 t10_25 t10_26 t10_27 t10_28 t10_29 t10_30 t10_31 t10_32 t10_33 (IntKind.wrap .i64 (t11 + 1)) t2_0 t2_1 t2_2 t2_3 t2_4 t2_5 w h o hk
      · obtain ⟨g230_0, h⟩ := ifS h
        rcases iteS h with ⟨b230_10, h⟩ | ⟨b230_10, h⟩
        · refine At.step hm ht ⟨[(2, .b false), (10, .b true)], [true], [], [0, 2, 10, 11], [0]⟩ 18 ⟨[(0, oc (.d (.sl .str w_))), (2, oc (.ptr 0 0)), (10, .one (.agg [.d (.str t10_0), .d (.str t10_1), .d (.str t10_2), .d (.str t10_3), .d (.str t10_4), .d (.str t10_5), .d (.str t10_6), .d (.str t10_7), .d (.str t10_8), .d (.str t10_9), .d (.str t10_10), .d (.str t10_11), .d (.str t10_12), .d (.str t10_13), .d (.str t10_14), .d (.str t10_15), .d (.str t10_16), .d (.str t10_17), .d (.str t10_18), .d (.str t10_19), .d (.str t10_20), .d (.str t10_21), .d (.str t10_22), .d (.str t10_23), .d (.str t10_24), .d (.str t10_25), .d (.str t10_26), .d (.str t10_27), .d (.str t10_28), .d (.str t10_29), .d (.str t10_30), .d (.str t10_31), .d (.str t10_32), .d (.str t10_33)])), (11, oc (zi t11))], [], [(0, [zi t2_0, zi t2_1, zi t2_2, zi t2_3, zi t2_4, zi t2_5, .d (.sl .unit [])])], 1⟩ [((t11 : Int) == 0) = false, (0 : Int) ≤ 0 ∧ 0 < (((w_).length : Nat) : Int), (!((([t10_0, t10_1, t10_2, t10_3, t10_4, t10_5, t10_6, t10_7, t10_8, t10_9, t10_10, t10_11, t10_12, t10_13, t10_14, t10_15, t10_16, t10_17, t10_18, t10_19, t10_20, t10_21, t10_22, t10_23, t10_24, t10_25, t10_26, t10_27, t10_28, t10_29, t10_30, t10_31, t10_32, t10_33] : List ByteArray).getD (t11.toNat * 2 + 0) ByteArray.empty).toList == (w_.getD 0 ByteArray.empty).toList)) = true, true = true] (by kernel_rfl) ⟨b230_2, g230_0, b230_10, rfl, trivial⟩ ?_
          refine At.step hm ht ⟨[], [], [], [0, 2, 10, 11], [0]⟩ 2 ⟨[(0, oc (.d (.sl .str w_))), (2, oc (.ptr 0 0)), (10, .one (.agg [.d (.str t10_0), .d (.str t10_1), .d (.str t10_2), .d (.str t10_3), .d (.str t10_4), .d (.str t10_5), .d (.str t10_6), .d (.str t10_7), .d (.str t10_8), .d (.str t10_9), .d (.str t10_10), .d (.str t10_11), .d (.str t10_12), .d (.str t10_13), .d (.str t10_14), .d (.str t10_15), .d (.str t10_16), .d (.str t10_17), .d (.str t10_18), .d (.str t10_19), .d (.str t10_20), .d (.str t10_21), .d (.str t10_22), .d (.str t10_23), .d (.str t10_24), .d (.str t10_25), .d (.str t10_26), .d (.str t10_27), .d (.str t10_28), .d (.str t10_29), .d (.str t10_30), .d (.str t10_31), .d (.str t10_32), .d (.str t10_33)])), (11, oc (zi (IntKind.wrap .i64 (t11 + 1))))], [], [(0, [zi t2_0, zi t2_1, zi t2_2, zi t2_3, zi t2_4, zi t2_5, .d (.sl .unit [])])], 1⟩ [] (by kernel_rfl) trivial ?_
          exact ih w_ t10_0 t10_1 t10_2 t10_3 t10_4 t10_5 t10_6 t10_7 t10_8 t10_9 t10_10 t10_11 t10_12 t10_13 t10_14 t10_15 t10_16 t10_17 t10_18 t10_19 t10_20 t10_21 t10_22 t10_23 t10_24 t10_25 t10_26 t10_27 t10_28 t10_29 t10_30 t10_31 t10_32 t10_33 (IntKind.wrap .i64 (t11 + 1)) t2_0 t2_1 t2_2 t2_3 t2_4 t2_5 w h o hk
        · rcases iteS h with ⟨b230_e0, h⟩ | ⟨b230_e0, h⟩
          · refine At.step hm ht ⟨[(2, .b false), (10, .b false)], [true], [], [0, 2, 10, 11], [0]⟩ 18 ⟨[(0, oc (.d (.sl .str w_))), (2, oc (.ptr 0 0)), (10, .one (.agg [.d (.str t10_0), .d (.str t10_1), .d (.str t10_2), .d (.str t10_3), .d (.str t10_4), .d (.str t10_5), .d (.str t10_6), .d (.str t10_7), .d (.str t10_8), .d (.str t10_9), .d (.str t10_10), .d (.str t10_11), .d (.str t10_12), .d (.str t10_13), .d (.str t10_14), .d (.str t10_15), .d (.str t10_16), .d (.str t10_17), .d (.str t10_18), .d (.str t10_19), .d (.str t10_20), .d (.str t10_21), .d (.str t10_22), .d (.str t10_23), .d (.str t10_24), .d (.str t10_25), .d (.str t10_26), .d (.str t10_27), .d (.str t10_28), .d (.str t10_29), .d (.str t10_30), .d (.str t10_31), .d (.str t10_32), .d (.str t10_33)])), (11, oc (zi t11))], [], [(0, [zi t2_0, zi t2_1, zi t2_2, zi t2_3, zi t2_4, zi t2_5, .d (.sl .unit [])])], 1⟩ [((t11 : Int) == 0) = false, (0 : Int) ≤ 0 ∧ 0 < (((w_).length : Nat) : Int), (!((([t10_0, t10_1, t10_2, t10_3, t10_4, t10_5, t10_6, t10_7, t10_8, t10_9, t10_10, t10_11, t10_12, t10_13, t10_14, t10_15, t10_16, t10_17, t10_18, t10_19, t10_20, t10_21, t10_22, t10_23, t10_24, t10_25, t10_26, t10_27, t10_28, t10_29, t10_30, t10_31, t10_32, t10_33] : List ByteArray).getD (t11.toNat * 2 + 0) ByteArray.empty).toList == (w_.getD 0 ByteArray.empty).toList)) = false, ((((w_.length : Nat) : Int) : Int) != (IntKind.wrap .i64 (1 + (((([t10_0, t10_1, t10_2, t10_3, t10_4, t10_5, t10_6, t10_7, t10_8, t10_9, t10_10, t10_11, t10_12, t10_13, t10_14, t10_15, t10_16, t10_17, t10_18, t10_19, t10_20, t10_21, t10_22, t10_23, t10_24, t10_25, t10_26, t10_27, t10_28, t10_29, t10_30, t10_31, t10_32, t10_33] : List ByteArray).getD (t11.toNat * 2 + 1) ByteArray.empty).size : Nat) : Int)))) = true] (by kernel_rfl) ⟨b230_2, g230_0, b230_10, b230_e0, trivial⟩ ?_
            refine At.step hm ht ⟨[], [], [], [0, 2, 10, 11], [0]⟩ 2 ⟨[(0, oc (.d (.sl .str w_))), (2, oc (.ptr 0 0)), (10, .one (.agg [.d (.str t10_0), .d (.str t10_1), .d (.str t10_2), .d (.str t10_3), .d (.str t10_4), .d (.str t10_5), .d (.str t10_6), .d (.str t10_7), .d (.str t10_8), .d (.str t10_9), .d (.str t10_10), .d (.str t10_11), .d (.str t10_12), .d (.str t10_13), .d (.str t10_14), .d (.str t10_15), .d (.str t10_16), .d (.str t10_17), .d (.str t10_18), .d (.str t10_19), .d (.str t10_20), .d (.str t10_21), .d (.str t10_22), .d (.str t10_23), .d (.str t10_24), .d (.str t10_25), .d (.str t10_26), .d (.str t10_27), .d (.str t10_28), .d (.str t10_29), .d (.str t10_30), .d (.str t10_31), .d (.str t10_32), .d (.str t10_33)])), (11, oc (zi (IntKind.wrap .i64 (t11 + 1))))], [], [(0, [zi t2_0, zi t2_1, zi t2_2, zi t2_3, zi t2_4, zi t2_5, .d (.sl .unit [])])], 1⟩ [] (by kernel_rfl) trivial ?_
            exact ih w_ t10_0 t10_1 t10_2 t10_3 t10_4 t10_5 t10_6 t10_7 t10_8 t10_9 t10_10 t10_11 t10_12 t10_13 t10_14 t10_15 t10_16 t10_17 t10_18 t10_19 t10_20 t10_21 t10_22 t10_23 t10_24 t10_25 t10_26 t10_27 t10_28 t10_29 t10_30 t10_31 t10_32 t10_33 (IntKind.wrap .i64 (t11 + 1)) t2_0 t2_1 t2_2 t2_3 t2_4 t2_5 w h o hk
          · refine At.step hm ht ⟨[(2, .b false), (10, .b false)], [false], [], [0, 2, 4, 5], [0, 1]⟩ 5 ⟨[(0, oc (.d (.sl .str w_))), (2, oc (.ptr 0 0)), (4, oc (zi t11)), (5, oc (.ptr 1 0))], [], [(0, [zi t2_0, zi t2_1, zi t2_2, zi t2_3, zi t2_4, zi t2_5, .d (.sl .unit [])]), (1, [.d (.str (([t10_0, t10_1, t10_2, t10_3, t10_4, t10_5, t10_6, t10_7, t10_8, t10_9, t10_10, t10_11, t10_12, t10_13, t10_14, t10_15, t10_16, t10_17, t10_18, t10_19, t10_20, t10_21, t10_22, t10_23, t10_24, t10_25, t10_26, t10_27, t10_28, t10_29, t10_30, t10_31, t10_32, t10_33] : List ByteArray).getD (t11.toNat * 2 + 0) ByteArray.empty)), .d (.str (([t10_0, t10_1, t10_2, t10_3, t10_4, t10_5, t10_6, t10_7, t10_8, t10_9, t10_10, t10_11, t10_12, t10_13, t10_14, t10_15, t10_16, t10_17, t10_18, t10_19, t10_20, t10_21, t10_22, t10_23, t10_24, t10_25, t10_26, t10_27, t10_28, t10_29, t10_30, t10_31, t10_32, t10_33] : List ByteArray).getD (t11.toNat * 2 + 1) ByteArray.empty))])], 2⟩ [((t11 : Int) == 0) = false, (0 : Int) ≤ 0 ∧ 0 < (((w_).length : Nat) : Int), (!((([t10_0, t10_1, t10_2, t10_3, t10_4, t10_5, t10_6, t10_7, t10_8, t10_9, t10_10, t10_11, t10_12, t10_13, t10_14, t10_15, t10_16, t10_17, t10_18, t10_19, t10_20, t10_21, t10_22, t10_23, t10_24, t10_25, t10_26, t10_27, t10_28, t10_29, t10_30, t10_31, t10_32, t10_33] : List ByteArray).getD (t11.toNat * 2 + 0) ByteArray.empty).toList == (w_.getD 0 ByteArray.empty).toList)) = false, ((((w_.length : Nat) : Int) : Int) != (IntKind.wrap .i64 (1 + (((([t10_0, t10_1, t10_2, t10_3, t10_4, t10_5, t10_6, t10_7, t10_8, t10_9, t10_10, t10_11, t10_12, t10_13, t10_14, t10_15, t10_16, t10_17, t10_18, t10_19, t10_20, t10_21, t10_22, t10_23, t10_24, t10_25, t10_26, t10_27, t10_28, t10_29, t10_30, t10_31, t10_32, t10_33] : List ByteArray).getD (t11.toNat * 2 + 1) ByteArray.empty).size : Nat) : Int)))) = false] (by kernel_rfl) ⟨b230_2, g230_0, b230_10, b230_e0, trivial⟩ ?_
            refine At.step hm ht ⟨[], [], [], [0, 2, 5, 6], [0, 1, 4]⟩ 6 ⟨[(0, oc (.d (.sl .str w_))), (2, oc (.ptr 0 0)), (5, oc (.ptr 1 0)), (6, oc (.ptr 2 0))], [], [(0, [zi t2_0, zi t2_1, zi t2_2, zi t2_3, zi t2_4, zi t2_5, .d (.sl .unit [])]), (1, [.d (.str (([t10_0, t10_1, t10_2, t10_3, t10_4, t10_5, t10_6, t10_7, t10_8, t10_9, t10_10, t10_11, t10_12, t10_13, t10_14, t10_15, t10_16, t10_17, t10_18, t10_19, t10_20, t10_21, t10_22, t10_23, t10_24, t10_25, t10_26, t10_27, t10_28, t10_29, t10_30, t10_31, t10_32, t10_33] : List ByteArray).getD (t11.toNat * 2 + 0) ByteArray.empty)), .d (.str (([t10_0, t10_1, t10_2, t10_3, t10_4, t10_5, t10_6, t10_7, t10_8, t10_9, t10_10, t10_11, t10_12, t10_13, t10_14, t10_15, t10_16, t10_17, t10_18, t10_19, t10_20, t10_21, t10_22, t10_23, t10_24, t10_25, t10_26, t10_27, t10_28, t10_29, t10_30, t10_31, t10_32, t10_33] : List ByteArray).getD (t11.toNat * 2 + 1) ByteArray.empty))]), (2, [zi t11, zi 0, zi 0, zi 0, zi 0, zi 0, .d (.sl .unit [])])], 3⟩ [0 + 7 ≤ 7] (by kernel_rfl) ⟨(by decide), trivial⟩ ?_
            refine At.step hm ht ⟨[], [], [.nil true 2 6 (.int .u8) (some 5)], [0, 2, 5, 6, 38, 39], [0, 1, 2, 7]⟩ 7 ⟨[(0, oc (.d (.sl .str w_))), (2, oc (.ptr 0 0)), (5, oc (.ptr 1 0)), (6, oc (.ptr 2 0)), (38, oc (zi (((([t10_0, t10_1, t10_2, t10_3, t10_4, t10_5, t10_6, t10_7, t10_8, t10_9, t10_10, t10_11, t10_12, t10_13, t10_14, t10_15, t10_16, t10_17, t10_18, t10_19, t10_20, t10_21, t10_22, t10_23, t10_24, t10_25, t10_26, t10_27, t10_28, t10_29, t10_30, t10_31, t10_32, t10_33] : List ByteArray).getD (t11.toNat * 2 + 1) ByteArray.empty).size : Nat) : Int))), (39, oc (zi 0))], [(3, some ⟨5, 0⟩)], [(0, [zi t2_0, zi t2_1, zi t2_2, zi t2_3, zi t2_4, zi t2_5, .d (.sl .unit [])]), (1, [.d (.str (([t10_0, t10_1, t10_2, t10_3, t10_4, t10_5, t10_6, t10_7, t10_8, t10_9, t10_10, t10_11, t10_12, t10_13, t10_14, t10_15, t10_16, t10_17, t10_18, t10_19, t10_20, t10_21, t10_22, t10_23, t10_24, t10_25, t10_26, t10_27, t10_28, t10_29, t10_30, t10_31, t10_32, t10_33] : List ByteArray).getD (t11.toNat * 2 + 0) ByteArray.empty)), .d (.str (([t10_0, t10_1, t10_2, t10_3, t10_4, t10_5, t10_6, t10_7, t10_8, t10_9, t10_10, t10_11, t10_12, t10_13, t10_14, t10_15, t10_16, t10_17, t10_18, t10_19, t10_20, t10_21, t10_22, t10_23, t10_24, t10_25, t10_26, t10_27, t10_28, t10_29, t10_30, t10_31, t10_32, t10_33] : List ByteArray).getD (t11.toNat * 2 + 1) ByteArray.empty))]), (2, [zi t11, zi 0, zi 0, zi 0, zi 0, zi 0, .own 3 (.int .u8) []])], 4⟩ [] (by kernel_rfl) trivial ?_
            obtain ⟨w270, cw270, h⟩ := bindS h
            refine f46_script_step_L7_ok n w_ (((([t10_0, t10_1, t10_2, t10_3, t10_4, t10_5, t10_6, t10_7, t10_8, t10_9, t10_10, t10_11, t10_12, t10_13, t10_14, t10_15, t10_16, t10_17, t10_18, t10_19, t10_20, t10_21, t10_22, t10_23, t10_24, t10_25, t10_26, t10_27, t10_28, t10_29, t10_30, t10_31, t10_32, t10_33] : List ByteArray).getD (t11.toNat * 2 + 1) ByteArray.empty).size : Nat) : Int) 0 t2_0 t2_1 t2_2 t2_3 t2_4 t2_5 (([t10_0, t10_1, t10_2, t10_3, t10_4, t10_5, t10_6, t10_7, t10_8, t10_9, t10_10, t10_11, t10_12, t10_13, t10_14, t10_15, t10_16, t10_17, t10_18, t10_19, t10_20, t10_21, t10_22, t10_23, t10_24, t10_25, t10_26, t10_27, t10_28, t10_29, t10_30, t10_31, t10_32, t10_33] : List ByteArray).getD (t11.toNat * 2 + 0) ByteArray.empty) (([t10_0, t10_1, t10_2, t10_3, t10_4, t10_5, t10_6, t10_7, t10_8, t10_9, t10_10, t10_11, t10_12, t10_13, t10_14, t10_15, t10_16, t10_17, t10_18, t10_19, t10_20, t10_21, t10_22, t10_23, t10_24, t10_25, t10_26, t10_27, t10_28, t10_29, t10_30, t10_31, t10_32, t10_33] : List ByteArray).getD (t11.toNat * 2 + 1) ByteArray.empty) t11 0 0 0 0 0 [] w270 cw270 _ ?_
            rcases w270 with e271 | e272
            · have h := Option.some.inj h
              subst h
              exact hk
            · show At Tryd.prog Tryd.f46 0 17 ⟨[(2, oc (.ptr 0 0)), (6, oc (.ptr 1 0))], [(2, some ⟨5, 0⟩)], [(0, [zi e272.1, zi e272.2.1, zi e272.2.2.1, zi e272.2.2.2.1, zi e272.2.2.2.2.1, zi e272.2.2.2.2.2.1, .d (.sl .unit [])]), (1, [zi e272.2.2.2.2.2.2.1, zi e272.2.2.2.2.2.2.2.1, zi e272.2.2.2.2.2.2.2.2.1, zi e272.2.2.2.2.2.2.2.2.2.1, zi e272.2.2.2.2.2.2.2.2.2.2.1, zi e272.2.2.2.2.2.2.2.2.2.2.2.1, .own 2 (.int .u8) e272.2.2.2.2.2.2.2.2.2.2.2.2])], 3⟩ _
              have h := Option.some.inj h
              subst h
              have hk : o = f46_script_step_out (true, e272.2.2.2.2.2.2.1, e272.2.2.2.2.2.2.2.1, e272.2.2.2.2.2.2.2.2.1, e272.2.2.2.2.2.2.2.2.2.1, e272.2.2.2.2.2.2.2.2.2.2.1, e272.2.2.2.2.2.2.2.2.2.2.2.1, e272.2.2.2.2.2.2.2.2.2.2.2.2) := hk
              subst hk
              exact At.fin hm ht ⟨[], [], [], [2, 3], [0, 2]⟩ [0 + 7 ≤ 7] (by kernel_rfl) ⟨(by decide), trivial⟩
    · refine At.step hm ht ⟨[], [false], [], [2], [0]⟩ 19 ⟨[(2, oc (.ptr 0 0))], [], [(0, [zi t2_0, zi t2_1, zi t2_2, zi t2_3, zi t2_4, zi t2_5, .d (.sl .unit [])])], 1⟩ [(decide ((t11 : Int) < 17)) = false] (by kernel_rfl) ⟨b228_e0, trivial⟩ ?_
      have h := Option.some.inj h
      subst h
      exact hk
def f46_script_step (n : Nat) (w_ : List ByteArray) : Option (Bool × Int × Int × Int × Int × Int × Int × List Int) :=
  (f70_script_shapes).bind fun r227_0 =>
  (f46_script_step_L2 n w_ r227_0.1 r227_0.2.1 r227_0.2.2.1 r227_0.2.2.2.1 r227_0.2.2.2.2.1 r227_0.2.2.2.2.2.1 r227_0.2.2.2.2.2.2.1 r227_0.2.2.2.2.2.2.2.1 r227_0.2.2.2.2.2.2.2.2.1 r227_0.2.2.2.2.2.2.2.2.2.1 r227_0.2.2.2.2.2.2.2.2.2.2.1 r227_0.2.2.2.2.2.2.2.2.2.2.2.1 r227_0.2.2.2.2.2.2.2.2.2.2.2.2.1 r227_0.2.2.2.2.2.2.2.2.2.2.2.2.2.1 r227_0.2.2.2.2.2.2.2.2.2.2.2.2.2.2.1 r227_0.2.2.2.2.2.2.2.2.2.2.2.2.2.2.2.1 r227_0.2.2.2.2.2.2.2.2.2.2.2.2.2.2.2.2.1 r227_0.2.2.2.2.2.2.2.2.2.2.2.2.2.2.2.2.2.1 r227_0.2.2.2.2.2.2.2.2.2.2.2.2.2.2.2.2.2.2.1 r227_0.2.2.2.2.2.2.2.2.2.2.2.2.2.2.2.2.2.2.2.1 r227_0.2.2.2.2.2.2.2.2.2.2.2.2.2.2.2.2.2.2.2.2.1 r227_0.2.2.2.2.2.2.2.2.2.2.2.2.2.2.2.2.2.2.2.2.2.1 r227_0.2.2.2.2.2.2.2.2.2.2.2.2.2.2.2.2.2.2.2.2.2.2.1 r227_0.2.2.2.2.2.2.2.2.2.2.2.2.2.2.2.2.2.2.2.2.2.2.2.1 r227_0.2.2.2.2.2.2.2.2.2.2.2.2.2.2.2.2.2.2.2.2.2.2.2.2.1 r227_0.2.2.2.2.2.2.2.2.2.2.2.2.2.2.2.2.2.2.2.2.2.2.2.2.2.1 r227_0.2.2.2.2.2.2.2.2.2.2.2.2.2.2.2.2.2.2.2.2.2.2.2.2.2.2.1 r227_0.2.2.2.2.2.2.2.2.2.2.2.2.2.2.2.2.2.2.2.2.2.2.2.2.2.2.2.1 r227_0.2.2.2.2.2.2.2.2.2.2.2.2.2.2.2.2.2.2.2.2.2.2.2.2.2.2.2.2.1 r227_0.2.2.2.2.2.2.2.2.2.2.2.2.2.2.2.2.2.2.2.2.2.2.2.2.2.2.2.2.2.1 r227_0.2.2.2.2.2.2.2.2.2.2.2.2.2.2.2.2.2.2.2.2.2.2.2.2.2.2.2.2.2.2.1 r227_0.2.2.2.2.2.2.2.2.2.2.2.2.2.2.2.2.2.2.2.2.2.2.2.2.2.2.2.2.2.2.2.1 r227_0.2.2.2.2.2.2.2.2.2.2.2.2.2.2.2.2.2.2.2.2.2.2.2.2.2.2.2.2.2.2.2.2.1 r227_0.2.2.2.2.2.2.2.2.2.2.2.2.2.2.2.2.2.2.2.2.2.2.2.2.2.2.2.2.2.2.2.2.2 0 0 0 0 0 0 0).bind fun w274 =>
  match w274 with
  | .inl e275 =>
    some (e275.1, e275.2.1, e275.2.2.1, e275.2.2.2.1, e275.2.2.2.2.1, e275.2.2.2.2.2.1, e275.2.2.2.2.2.2.1, e275.2.2.2.2.2.2.2)
  | .inr e276 =>
    some (false, 0, 0, 0, 0, 0, 0, [])
theorem f46_script_step_ok (n : Nat) (w_ : List ByteArray) (r : Bool × Int × Int × Int × Int × Int × Int × List Int) (h : f46_script_step n w_ = some r) : FnOK Tryd.prog 46 (f46_script_step_in w_) (f46_script_step_out r) := by
  unfold f46_script_step at h
  refine At.fn (r := 0) Tryd.func46 rfl (by kernel_rfl) rfl rfl (by kernel_rfl) ?_
  show At Tryd.prog Tryd.f46 0 0 ⟨[(0, oc (.d (.sl .str w_)))], [], [], 0⟩ _
  refine At.step hm ht ⟨[], [], [], [0, 2], [0]⟩ 1 ⟨[(0, oc (.d (.sl .str w_))), (2, oc (.ptr 0 0))], [], [(0, [zi 0, zi 0, zi 0, zi 0, zi 0, zi 0, .d (.sl .unit [])])], 1⟩ [] (by kernel_rfl) trivial ?_
  obtain ⟨r227_0, cr227_0, h⟩ := bindS h
  refine At.step hm ht ⟨[(0, .call [] [] (f70_script_shapes_out r227_0))], [], [], [0, 2, 10, 11], [0]⟩ 2 ⟨[(0, oc (.d (.sl .str w_))), (2, oc (.ptr 0 0)), (10, .one (.agg [.d (.str r227_0.1), .d (.str r227_0.2.1), .d (.str r227_0.2.2.1), .d (.str r227_0.2.2.2.1), .d (.str r227_0.2.2.2.2.1), .d (.str r227_0.2.2.2.2.2.1), .d (.str r227_0.2.2.2.2.2.2.1), .d (.str r227_0.2.2.2.2.2.2.2.1), .d (.str r227_0.2.2.2.2.2.2.2.2.1), .d (.str r227_0.2.2.2.2.2.2.2.2.2.1), .d (.str r227_0.2.2.2.2.2.2.2.2.2.2.1), .d (.str r227_0.2.2.2.2.2.2.2.2.2.2.2.1), .d (.str r227_0.2.2.2.2.2.2.2.2.2.2.2.2.1), .d (.str r227_0.2.2.2.2.2.2.2.2.2.2.2.2.2.1), .d (.str r227_0.2.2.2.2.2.2.2.2.2.2.2.2.2.2.1), .d (.str r227_0.2.2.2.2.2.2.2.2.2.2.2.2.2.2.2.1), .d (.str r227_0.2.2.2.2.2.2.2.2.2.2.2.2.2.2.2.2.1), .d (.str r227_0.2.2.2.2.2.2.2.2.2.2.2.2.2.2.2.2.2.1), .d (.str r227_0.2.2.2.2.2.2.2.2.2.2.2.2.2.2.2.2.2.2.1), .d (.str r227_0.2.2.2.2.2.2.2.2.2.2.2.2.2.2.2.2.2.2.2.1), .d (.str r227_0.2.2.2.2.2.2.2.2.2.2.2.2.2.2.2.2.2.2.2.2.1), .d (.str r227_0.2.2.2.2.2.2.2.2.2.2.2.2.2.2.2.2.2.2.2.2.2.1), .d (.str r227_0.2.2.2.2.2.2.2.2.2.2.2.2.2.2.2.2.2.2.2.2.2.2.1), .d (.str r227_0.2.2.2.2.2.2.2.2.2.2.2.2.2.2.2.2.2.2.2.2.2.2.2.1), .d (.str r227_0.2.2.2.2.2.2.2.2.2.2.2.2.2.2.2.2.2.2.2.2.2.2.2.2.1), .d (.str r227_0.2.2.2.2.2.2.2.2.2.2.2.2.2.2.2.2.2.2.2.2.2.2.2.2.2.1), .d (.str r227_0.2.2.2.2.2.2.2.2.2.2.2.2.2.2.2.2.2.2.2.2.2.2.2.2.2.2.1), .d (.str r227_0.2.2.2.2.2.2.2.2.2.2.2.2.2.2.2.2.2.2.2.2.2.2.2.2.2.2.2.1), .d (.str r227_0.2.2.2.2.2.2.2.2.2.2.2.2.2.2.2.2.2.2.2.2.2.2.2.2.2.2.2.2.1), .d (.str r227_0.2.2.2.2.2.2.2.2.2.2.2.2.2.2.2.2.2.2.2.2.2.2.2.2.2.2.2.2.2.1), .d (.str r227_0.2.2.2.2.2.2.2.2.2.2.2.2.2.2.2.2.2.2.2.2.2.2.2.2.2.2.2.2.2.2.1), .d (.str r227_0.2.2.2.2.2.2.2.2.2.2.2.2.2.2.2.2.2.2.2.2.2.2.2.2.2.2.2.2.2.2.2.1), .d (.str r227_0.2.2.2.2.2.2.2.2.2.2.2.2.2.2.2.2.2.2.2.2.2.2.2.2.2.2.2.2.2.2.2.2.1), .d (.str r227_0.2.2.2.2.2.2.2.2.2.2.2.2.2.2.2.2.2.2.2.2.2.2.2.2.2.2.2.2.2.2.2.2.2)])), (11, oc (zi 0))], [], [(0, [zi 0, zi 0, zi 0, zi 0, zi 0, zi 0, .d (.sl .unit [])])], 1⟩ [FnOK Tryd.prog 70 (f70_script_shapes_in) (f70_script_shapes_out r227_0)] (by kernel_rfl) ⟨(f70_script_shapes_ok r227_0 cr227_0), trivial⟩ ?_
  obtain ⟨w274, cw274, h⟩ := bindS h
  refine f46_script_step_L2_ok n w_ r227_0.1 r227_0.2.1 r227_0.2.2.1 r227_0.2.2.2.1 r227_0.2.2.2.2.1 r227_0.2.2.2.2.2.1 r227_0.2.2.2.2.2.2.1 r227_0.2.2.2.2.2.2.2.1 r227_0.2.2.2.2.2.2.2.2.1 r227_0.2.2.2.2.2.2.2.2.2.1 r227_0.2.2.2.2.2.2.2.2.2.2.1 r227_0.2.2.2.2.2.2.2.2.2.2.2.1 r227_0.2.2.2.2.2.2.2.2.2.2.2.2.1 r227_0.2.2.2.2.2.2.2.2.2.2.2.2.2.1 r227_0.2.2.2.2.2.2.2.2.2.2.2.2.2.2.1 r227_0.2.2.2.2.2.2.2.2.2.2.2.2.2.2.2.1 r227_0.2.2.2.2.2.2.2.2.2.2.2.2.2.2.2.2.1 r227_0.2.2.2.2.2.2.2.2.2.2.2.2.2.2.2.2.2.1 r227_0.2.2.2.2.2.2.2.2.2.2.2.2.2.2.2.2.2.2.1 r227_0.2.2.2.2.2.2.2.2.2.2.2.2.2.2.2.2.2.2.2.1 r227_0.2.2.2.2.2.2.2.2.2.2.2.2.2.2.2.2.2.2.2.2.1 r227_0.2.2.2.2.2.2.2.2.2.2.2.2.2.2.2.2.2.2.2.2.2.1 r227_0.2.2.2.2.2.2.2.2.2.2.2.2.2.2.2.2.2.2.2.2.2.2.1 r227_0.2.2.2.2.2.2.2.2.2.2.2.2.2.2.2.2.2.2.2.2.2.2.2.1 r227_0.2.2.2.2.2.2.2.2.2.2.2.2.2.2.2.2.2.2.2.2.2.2.2.2.1 r227_0.2.2.2.2.2.2.2.2.2.2.2.2.2.2.2.2.2.2.2.2.2.2.2.2.2.1 r227_0.2.2.2.2.2.2.2.2.2.2.2.2.2.2.2.2.2.2.2.2.2.2.2.2.2.2.1 r227_0.2.2.2.2.2.2.2.2.2.2.2.2.2.2.2.2.2.2.2.2.2.2.2.2.2.2.2.1 r227_0.2.2.2.2.2.2.2.2.2.2.2.2.2.2.2.2.2.2.2.2.2.2.2.2.2.2.2.2.1 r227_0.2.2.2.2.2.2.2.2.2.2.2.2.2.2.2.2.2.2.2.2.2.2.2.2.2.2.2.2.2.1 r227_0.2.2.2.2.2.2.2.2.2.2.2.2.2.2.2.2.2.2.2.2.2.2.2.2.2.2.2.2.2.2.1 r227_0.2.2.2.2.2.2.2.2.2.2.2.2.2.2.2.2.2.2.2.2.2.2.2.2.2.2.2.2.2.2.2.1 r227_0.2.2.2.2.2.2.2.2.2.2.2.2.2.2.2.2.2.2.2.2.2.2.2.2.2.2.2.2.2.2.2.2.1 r227_0.2.2.2.2.2.2.2.2.2.2.2.2.2.2.2.2.2.2.2.2.2.2.2.2.2.2.2.2.2.2.2.2.2 0 0 0 0 0 0 0 w274 cw274 _ ?_
  rcases w274 with e275 | e276
  · have h := Option.some.inj h
    subst h
    rfl
  · show At Tryd.prog Tryd.f46 0 19 ⟨[(2, oc (.ptr 0 0))], [], [(0, [zi e276.1, zi e276.2.1, zi e276.2.2.1, zi e276.2.2.2.1, zi e276.2.2.2.2.1, zi e276.2.2.2.2.2, .d (.sl .unit [])])], 1⟩ _
    have h := Option.some.inj h
    subst h
    exact At.fin hm ht ⟨[], [], [.nil true 0 6 (.int .u8) (some 5)], [2, 3], [0, 4]⟩ [0 + 7 ≤ 7] (by kernel_rfl) ⟨(by decide), trivial⟩
/-! brougham/script.Parse -/
def f11_script_Parse_in (s : ByteArray) : Inn := ⟨[.c (.d (.str s))], [], [], 0⟩
def f11_script_Parse_out (r : (List (Int × Int × Int × Int × Int × Int × List Int)) × Int × Int) : Out := ⟨.tup [.c (.own 0 (.pair (.int .i64) (.pair (.int .i64) (.pair (.int .i64) (.pair (.int .i64) (.pair (.int .i64) (.pair (.int .i64) (.slice (.int .u8)))))))) r.1), .c (zi r.2.1), .c (zi r.2.2)], [(0, ⟨79, 0⟩)], [], 1⟩
def f11_script_Parse_L5 : Nat → (List (Int × Int × Int × Int × Int × Int × List Int)) → (List ByteArray) → Int → Int → Option (((List (Int × Int × Int × Int × Int × Int × List Int)) × Int × Int) ⊕ (List (Int × Int × Int × Int × Int × Int × List Int)))
  | 0, _, _, _, _ => none
  | n + 1, out, t15, t16, t17 =>
    if (decide ((t17 : Int) < t16)) = true then
      if (0 : Int) ≤ t17 ∧ t17 < (((t15).length : Nat) : Int) then
      (f15_num_Pieces n (t15.getD t17.toNat ByteArray.empty)).bind fun r310_0 =>
      if ((((r310_0.length : Nat) : Int) : Int) == 0) = true then
        f11_script_Parse_L5 n out t15 t16 (IntKind.wrap .i64 (t17 + 1))
      else
        (f46_script_step n r310_0).bind fun r313_0 =>
        if (!r313_0.1) = true then
          some (.inl ([], (IntKind.wrap .i64 (t17 + 1)), 230))
        else
          if ((((out.length : Nat) : Int) : Int) == 512) = true then
            some (.inl ([], (IntKind.wrap .i64 (t17 + 1)), 230))
          else
            if out.length + [r313_0.2].length ≤ maxLen ∧ (out.length + [r313_0.2].length) * 72 ≤ 140737488355328 then
            f11_script_Parse_L5 n (out ++ [r313_0.2]) t15 t16 (IntKind.wrap .i64 (t17 + 1))
            else none
      else none
    else
      some (.inr out)
def f11_script_Parse_L5_k (w : ((List (Int × Int × Int × Int × Int × Int × List Int)) × Int × Int) ⊕ (List (Int × Int × Int × Int × Int × Int × List Int))) (o : Out) : Prop := match w with
  | .inl e => o = f11_script_Parse_out e
  | .inr e => At Tryd.prog Tryd.f11 0 14 ⟨[(5, oc (.own 0 (.pair (.int .i64) (.pair (.int .i64) (.pair (.int .i64) (.pair (.int .i64) (.pair (.int .i64) (.pair (.int .i64) (.slice (.int .u8)))))))) e))], [(0, some ⟨79, 0⟩)], [], 1⟩ o
theorem f11_script_Parse_L5_ok (n : Nat) : ∀ (out : List (Int × Int × Int × Int × Int × Int × List Int)) (t15 : List ByteArray) (t16 : Int) (t17 : Int) (w : ((List (Int × Int × Int × Int × Int × Int × List Int)) × Int × Int) ⊕ (List (Int × Int × Int × Int × Int × Int × List Int))) (h : f11_script_Parse_L5 n out t15 t16 t17 = some w) (o : Out) (hk : f11_script_Parse_L5_k w o), At Tryd.prog Tryd.f11 0 5 ⟨[(5, oc (.own 0 (.pair (.int .i64) (.pair (.int .i64) (.pair (.int .i64) (.pair (.int .i64) (.pair (.int .i64) (.pair (.int .i64) (.slice (.int .u8)))))))) out)), (15, oc (.d (.sl .str t15))), (16, oc (zi t16)), (17, oc (zi t17))], [(0, some ⟨79, 0⟩)], [], 1⟩ o := by
  induction n with
  | zero => intro out t15 t16 t17 w h; rw [f11_script_Parse_L5] at h; cases h
  | succ n ih =>
    intro out t15 t16 t17 w h o hk
    rw [f11_script_Parse_L5] at h
    rcases iteS h with ⟨b308_e0, h⟩ | ⟨b308_e0, h⟩
    · refine At.step hm ht ⟨[], [true], [], [5, 15, 16, 17], [0]⟩ 6 ⟨[(5, oc (.own 0 (.pair (.int .i64) (.pair (.int .i64) (.pair (.int .i64) (.pair (.int .i64) (.pair (.int .i64) (.pair (.int .i64) (.slice (.int .u8)))))))) out)), (15, oc (.d (.sl .str t15))), (16, oc (zi t16)), (17, oc (zi t17))], [(0, some ⟨79, 0⟩)], [], 1⟩ [(decide ((t17 : Int) < t16)) = true] (by kernel_rfl) ⟨b308_e0, trivial⟩ ?_
      obtain ⟨g309_0, h⟩ := ifS h
      refine At.step hm ht ⟨[], [], [], [5, 6, 7, 15, 16, 17], [0]⟩ 7 ⟨[(5, oc (.own 0 (.pair (.int .i64) (.pair (.int .i64) (.pair (.int .i64) (.pair (.int .i64) (.pair (.int .i64) (.pair (.int .i64) (.slice (.int .u8)))))))) out)), (6, oc (zi t17)), (7, oc (.d (.str (t15.getD t17.toNat ByteArray.empty)))), (15, oc (.d (.sl .str t15))), (16, oc (zi t16)), (17, oc (zi t17))], [(0, some ⟨79, 0⟩)], [], 1⟩ [(0 : Int) ≤ t17 ∧ t17 < (((t15).length : Nat) : Int)] (by kernel_rfl) ⟨g309_0, trivial⟩ ?_
      obtain ⟨r310_0, cr310_0, h⟩ := bindS h
      refine At.step hm ht ⟨[(1, .call [] [] (f15_num_Pieces_out r310_0))], [], [], [5, 6, 8, 15, 16, 17], [0, 2]⟩ 8 ⟨[(5, oc (.own 0 (.pair (.int .i64) (.pair (.int .i64) (.pair (.int .i64) (.pair (.int .i64) (.pair (.int .i64) (.pair (.int .i64) (.slice (.int .u8)))))))) out)), (6, oc (zi t17)), (8, oc (.own 1 .str r310_0)), (15, oc (.d (.sl .str t15))), (16, oc (zi t16)), (17, oc (zi t17))], [(0, some ⟨79, 0⟩), (1, some ⟨9, 0⟩)], [], 2⟩ [FnOK Tryd.prog 15 (f15_num_Pieces_in (t15.getD t17.toNat ByteArray.empty)) (f15_num_Pieces_out r310_0)] (by kernel_rfl) ⟨(f15_num_Pieces_ok n (t15.getD t17.toNat ByteArray.empty) r310_0 cr310_0), trivial⟩ ?_
      rcases iteS h with ⟨b311_e0, h⟩ | ⟨b311_e0, h⟩
      · refine At.step hm ht ⟨[], [true], [], [5, 15, 16, 17], [0]⟩ 13 ⟨[(5, oc (.own 0 (.pair (.int .i64) (.pair (.int .i64) (.pair (.int .i64) (.pair (.int .i64) (.pair (.int .i64) (.pair (.int .i64) (.slice (.int .u8)))))))) out)), (15, oc (.d (.sl .str t15))), (16, oc (zi t16)), (17, oc (zi t17))], [(0, some ⟨79, 0⟩)], [], 1⟩ [((((r310_0.length : Nat) : Int) : Int) == 0) = true] (by kernel_rfl) ⟨b311_e0, trivial⟩ ?_
        refine At.step hm ht ⟨[], [], [], [5, 15, 16, 17], [0]⟩ 5 ⟨[(5, oc (.own 0 (.pair (.int .i64) (.pair (.int .i64) (.pair (.int .i64) (.pair (.int .i64) (.pair (.int .i64) (.pair (.int .i64) (.slice (.int .u8)))))))) out)), (15, oc (.d (.sl .str t15))), (16, oc (zi t16)), (17, oc (zi (IntKind.wrap .i64 (t17 + 1))))], [(0, some ⟨79, 0⟩)], [], 1⟩ [] (by kernel_rfl) trivial ?_
        exact ih out t15 t16 (IntKind.wrap .i64 (t17 + 1)) w h o hk
      · refine At.step hm ht ⟨[], [false], [], [5, 6, 8, 15, 16, 17], [0, 1]⟩ 9 ⟨[(5, oc (.own 0 (.pair (.int .i64) (.pair (.int .i64) (.pair (.int .i64) (.pair (.int .i64) (.pair (.int .i64) (.pair (.int .i64) (.slice (.int .u8)))))))) out)), (6, oc (zi t17)), (8, oc (.own 1 .str r310_0)), (15, oc (.d (.sl .str t15))), (16, oc (zi t16)), (17, oc (zi t17))], [(0, some ⟨79, 0⟩), (1, some ⟨9, 0⟩)], [], 2⟩ [((((r310_0.length : Nat) : Int) : Int) == 0) = false] (by kernel_rfl) ⟨b311_e0, trivial⟩ ?_
        obtain ⟨r313_0, cr313_0, h⟩ := bindS h
        refine At.step hm ht ⟨[(1, .call [] [] (f46_script_step_out r313_0))], [], [], [5, 6, 9, 10, 15, 16, 17], [0, 8, 4]⟩ 10 ⟨[(5, oc (.own 0 (.pair (.int .i64) (.pair (.int .i64) (.pair (.int .i64) (.pair (.int .i64) (.pair (.int .i64) (.pair (.int .i64) (.slice (.int .u8)))))))) out)), (6, oc (zi t17)), (9, oc (.ptr 1 0)), (10, oc (.d (.bool r313_0.1))), (15, oc (.d (.sl .str t15))), (16, oc (zi t16)), (17, oc (zi t17))], [(0, some ⟨79, 0⟩), (2, some ⟨5, 0⟩)], [(1, [zi r313_0.2.1, zi r313_0.2.2.1, zi r313_0.2.2.2.1, zi r313_0.2.2.2.2.1, zi r313_0.2.2.2.2.2.1, zi r313_0.2.2.2.2.2.2.1, .own 2 (.int .u8) r313_0.2.2.2.2.2.2.2])], 3⟩ [FnOK Tryd.prog 46 (f46_script_step_in r310_0) (f46_script_step_out r313_0), 0 + 7 ≤ 7] (by kernel_rfl) ⟨(f46_script_step_ok n r310_0 r313_0 cr313_0), (by decide), trivial⟩ ?_
        rcases iteS h with ⟨b314_2, h⟩ | ⟨b314_2, h⟩
        · refine At.step hm ht ⟨[(2, .b true)], [true], [], [6], []⟩ 11 ⟨[(6, oc (zi t17))], [], [], 0⟩ [(!r313_0.1) = true, true = true] (by kernel_rfl) ⟨b314_2, rfl, trivial⟩ ?_
          have h := Option.some.inj h
          subst h
          have hk : o = f11_script_Parse_out ([], (IntKind.wrap .i64 (t17 + 1)), 230) := hk
          subst hk
          exact At.fin hm ht ⟨[], [], [.nil false 2 0 (.pair (.int .i64) (.pair (.int .i64) (.pair (.int .i64) (.pair (.int .i64) (.pair (.int .i64) (.pair (.int .i64) (.slice (.int .u8)))))))) (some 79)], [2, 3, 4], [5]⟩ [] (by kernel_rfl) trivial
        · rcases iteS h with ⟨b314_e0, h⟩ | ⟨b314_e0, h⟩
          · refine At.step hm ht ⟨[(2, .b false)], [true], [], [6], []⟩ 11 ⟨[(6, oc (zi t17))], [], [], 0⟩ [(!r313_0.1) = false, ((((out.length : Nat) : Int) : Int) == 512) = true] (by kernel_rfl) ⟨b314_2, b314_e0, trivial⟩ ?_
            have h := Option.some.inj h
            subst h
            have hk : o = f11_script_Parse_out ([], (IntKind.wrap .i64 (t17 + 1)), 230) := hk
            subst hk
            exact At.fin hm ht ⟨[], [], [.nil false 2 0 (.pair (.int .i64) (.pair (.int .i64) (.pair (.int .i64) (.pair (.int .i64) (.pair (.int .i64) (.pair (.int .i64) (.slice (.int .u8)))))))) (some 79)], [2, 3, 4], [5]⟩ [] (by kernel_rfl) trivial
          · refine At.step hm ht ⟨[(2, .b false)], [false], [], [5, 9, 15, 16, 17], [0, 1, 2]⟩ 12 ⟨[(5, oc (.own 0 (.pair (.int .i64) (.pair (.int .i64) (.pair (.int .i64) (.pair (.int .i64) (.pair (.int .i64) (.pair (.int .i64) (.slice (.int .u8)))))))) out)), (9, oc (.ptr 1 0)), (15, oc (.d (.sl .str t15))), (16, oc (zi t16)), (17, oc (zi t17))], [(0, some ⟨79, 0⟩), (2, some ⟨5, 0⟩)], [(1, [zi r313_0.2.1, zi r313_0.2.2.1, zi r313_0.2.2.2.1, zi r313_0.2.2.2.2.1, zi r313_0.2.2.2.2.2.1, zi r313_0.2.2.2.2.2.2.1, .own 2 (.int .u8) r313_0.2.2.2.2.2.2.2])], 3⟩ [(!r313_0.1) = false, ((((out.length : Nat) : Int) : Int) == 512) = false] (by kernel_rfl) ⟨b314_2, b314_e0, trivial⟩ ?_
            obtain ⟨g317_0, h⟩ := ifS h
            refine At.step hm ht ⟨[], [], [], [5, 15, 16, 17], [6]⟩ 13 ⟨[(5, oc (.own 0 (.pair (.int .i64) (.pair (.int .i64) (.pair (.int .i64) (.pair (.int .i64) (.pair (.int .i64) (.pair (.int .i64) (.slice (.int .u8)))))))) (out ++ [r313_0.2]))), (15, oc (.d (.sl .str t15))), (16, oc (zi t16)), (17, oc (zi t17))], [(0, some ⟨79, 0⟩)], [], 1⟩ [out.length + [r313_0.2].length ≤ maxLen ∧ (out.length + [r313_0.2].length) * 72 ≤ 140737488355328] (by kernel_rfl) ⟨g317_0, trivial⟩ ?_
            refine At.step hm ht ⟨[], [], [], [5, 15, 16, 17], [0]⟩ 5 ⟨[(5, oc (.own 0 (.pair (.int .i64) (.pair (.int .i64) (.pair (.int .i64) (.pair (.int .i64) (.pair (.int .i64) (.pair (.int .i64) (.slice (.int .u8)))))))) (out ++ [r313_0.2]))), (15, oc (.d (.sl .str t15))), (16, oc (zi t16)), (17, oc (zi (IntKind.wrap .i64 (t17 + 1))))], [(0, some ⟨79, 0⟩)], [], 1⟩ [] (by kernel_rfl) trivial ?_
            exact ih (out ++ [r313_0.2]) t15 t16 (IntKind.wrap .i64 (t17 + 1)) w h o hk
    · refine At.step hm ht ⟨[], [false], [], [5], [0]⟩ 14 ⟨[(5, oc (.own 0 (.pair (.int .i64) (.pair (.int .i64) (.pair (.int .i64) (.pair (.int .i64) (.pair (.int .i64) (.pair (.int .i64) (.slice (.int .u8)))))))) out))], [(0, some ⟨79, 0⟩)], [], 1⟩ [(decide ((t17 : Int) < t16)) = false] (by kernel_rfl) ⟨b308_e0, trivial⟩ ?_
      have h := Option.some.inj h
      subst h
      exact hk
def f11_script_Parse (n : Nat) (s : ByteArray) : Option ((List (Int × Int × Int × Int × Int × Int × List Int)) × Int × Int) :=
  if (decide ((((s.size : Nat) : Int) : Int) > 65536)) = true then
    some ([], 0, 230)
  else
    (f45_strings_Split s (⟨#[10]⟩ : ByteArray)).bind fun r307_0 =>
    (f11_script_Parse_L5 n [] r307_0 ((r307_0.length : Nat) : Int) 0).bind fun w319 =>
    match w319 with
    | .inl e320 =>
      some (e320.1, e320.2.1, e320.2.2)
    | .inr e321 =>
      some (e321, 0, 0)
theorem f11_script_Parse_ok (n : Nat) (s : ByteArray) (r : (List (Int × Int × Int × Int × Int × Int × List Int)) × Int × Int) (h : f11_script_Parse n s = some r) : FnOK Tryd.prog 11 (f11_script_Parse_in s) (f11_script_Parse_out r) := by
  unfold f11_script_Parse at h
  refine At.fn (r := 0) Tryd.func11 rfl (by kernel_rfl) rfl rfl (by kernel_rfl) ?_
  show At Tryd.prog Tryd.f11 0 0 ⟨[(0, oc (.d (.str s)))], [], [], 0⟩ _
  refine At.step hm ht ⟨[], [], [], [0], []⟩ 1 ⟨[(0, oc (.d (.str s)))], [], [], 0⟩ [] (by kernel_rfl) trivial ?_
  rcases iteS h with ⟨b304_e0, h⟩ | ⟨b304_e0, h⟩
  · refine At.step hm ht ⟨[], [true], [], [], []⟩ 2 ⟨[], [], [], 0⟩ [(decide ((((s.size : Nat) : Int) : Int) > 65536)) = true] (by kernel_rfl) ⟨b304_e0, trivial⟩ ?_
    have h := Option.some.inj h
    subst h
    exact At.fin hm ht ⟨[], [], [.nil false 2 0 (.pair (.int .i64) (.pair (.int .i64) (.pair (.int .i64) (.pair (.int .i64) (.pair (.int .i64) (.pair (.int .i64) (.slice (.int .u8)))))))) (some 79)], [2, 3, 4], [3]⟩ [] (by kernel_rfl) trivial
  · refine At.step hm ht ⟨[], [false], [], [0], []⟩ 3 ⟨[(0, oc (.d (.str s)))], [], [], 0⟩ [(decide ((((s.size : Nat) : Int) : Int) > 65536)) = false] (by kernel_rfl) ⟨b304_e0, trivial⟩ ?_
    refine At.step hm ht ⟨[], [], [], [0, 5], []⟩ 4 ⟨[(0, oc (.d (.str s))), (5, oc (.d (.sl .unit [])))], [], [], 0⟩ [] (by kernel_rfl) trivial ?_
    obtain ⟨r307_0, cr307_0, h⟩ := bindS h
    refine At.step hm ht ⟨[(1, .call [] [] (f45_strings_Split_out r307_0))], [], [.nil false 5 0 (.pair (.int .i64) (.pair (.int .i64) (.pair (.int .i64) (.pair (.int .i64) (.pair (.int .i64) (.pair (.int .i64) (.slice (.int .u8)))))))) (some 79)], [5, 15, 16, 17], [3]⟩ 5 ⟨[(5, oc (.own 0 (.pair (.int .i64) (.pair (.int .i64) (.pair (.int .i64) (.pair (.int .i64) (.pair (.int .i64) (.pair (.int .i64) (.slice (.int .u8)))))))) [])), (15, oc (.d (.sl .str r307_0))), (16, oc (zi ((r307_0.length : Nat) : Int))), (17, oc (zi 0))], [(0, some ⟨79, 0⟩)], [], 1⟩ [FnOK Tryd.prog 45 (f45_strings_Split_in s (⟨#[10]⟩ : ByteArray)) (f45_strings_Split_out r307_0)] (by kernel_rfl) ⟨(f45_strings_Split_ok s (⟨#[10]⟩ : ByteArray) r307_0 cr307_0), trivial⟩ ?_
    obtain ⟨w319, cw319, h⟩ := bindS h
    refine f11_script_Parse_L5_ok n [] r307_0 ((r307_0.length : Nat) : Int) 0 w319 cw319 _ ?_
    rcases w319 with e320 | e321
    · have h := Option.some.inj h
      subst h
      rfl
    · show At Tryd.prog Tryd.f11 0 14 ⟨[(5, oc (.own 0 (.pair (.int .i64) (.pair (.int .i64) (.pair (.int .i64) (.pair (.int .i64) (.pair (.int .i64) (.pair (.int .i64) (.slice (.int .u8)))))))) e321))], [(0, some ⟨79, 0⟩)], [], 1⟩ _
      have h := Option.some.inj h
      subst h
      exact At.fin hm ht ⟨[], [], [], [2, 3, 4], [0]⟩ [] (by kernel_rfl) trivial
/-! brougham/broughamref25.Same -/
def f13_broughamref25_Same_in (a : List (Int × Int × Int × Int × Int × Int × List Int)) (b : List (Int × Int × Int × Int × Int × Int × List Int)) : Inn := ⟨[.c (.d (.sl (.pair (.int .i64) (.pair (.int .i64) (.pair (.int .i64) (.pair (.int .i64) (.pair (.int .i64) (.pair (.int .i64) (.slice (.int .u8)))))))) a)), .c (.d (.sl (.pair (.int .i64) (.pair (.int .i64) (.pair (.int .i64) (.pair (.int .i64) (.pair (.int .i64) (.pair (.int .i64) (.slice (.int .u8)))))))) b))], [], [], 0⟩
def f13_broughamref25_Same_out (r : Bool) : Out := ⟨oc (.d (.bool r)), [], [], 0⟩
def f13_broughamref25_Same_L4 : Nat → (List (Int × Int × Int × Int × Int × Int × List Int)) → (List (Int × Int × Int × Int × Int × Int × List Int)) → Int → Option ((Bool) ⊕ (Unit))
  | 0, _, _, _ => none
  | n + 1, a, b, i =>
    if (decide ((i : Int) < ((a.length : Nat) : Int))) = true then
      if (0 : Int) ≤ i ∧ i < (((a).length : Nat) : Int) then
      if (0 : Int) ≤ i ∧ i < (((b).length : Nat) : Int) then
      if ((((a.getD i.toNat (0, (0, (0, (0, (0, (0, []))))))).1) : Int) != ((b.getD i.toNat (0, (0, (0, (0, (0, (0, []))))))).1)) = true then
        some (.inl false)
      else
        if (((((a.getD i.toNat (0, (0, (0, (0, (0, (0, []))))))).2).1) : Int) != (((b.getD i.toNat (0, (0, (0, (0, (0, (0, []))))))).2).1)) = true then
          some (.inl false)
        else
          if ((((((a.getD i.toNat (0, (0, (0, (0, (0, (0, []))))))).2).2).1) : Int) != ((((b.getD i.toNat (0, (0, (0, (0, (0, (0, []))))))).2).2).1)) = true then
            some (.inl false)
          else
            if (((((((a.getD i.toNat (0, (0, (0, (0, (0, (0, []))))))).2).2).2).1) : Int) != (((((b.getD i.toNat (0, (0, (0, (0, (0, (0, []))))))).2).2).2).1)) = true then
              some (.inl false)
            else
              if ((((((((a.getD i.toNat (0, (0, (0, (0, (0, (0, []))))))).2).2).2).2).1) : Int) != ((((((b.getD i.toNat (0, (0, (0, (0, (0, (0, []))))))).2).2).2).2).1)) = true then
                some (.inl false)
              else
                if (((((((((a.getD i.toNat (0, (0, (0, (0, (0, (0, []))))))).2).2).2).2).2).1) : Int) != (((((((b.getD i.toNat (0, (0, (0, (0, (0, (0, []))))))).2).2).2).2).2).1)) = true then
                  some (.inl false)
                else
                  if (!((strOfNums (((((((a.getD i.toNat (0, (0, (0, (0, (0, (0, []))))))).2).2).2).2).2).2)).toList == (strOfNums (((((((b.getD i.toNat (0, (0, (0, (0, (0, (0, []))))))).2).2).2).2).2).2)).toList)) = true then
                    some (.inl false)
                  else
                    f13_broughamref25_Same_L4 n a b (IntKind.wrap .i64 (i + 1))
      else none
      else none
    else
      some (.inr ())
def f13_broughamref25_Same_L4_k (w : (Bool) ⊕ (Unit)) (o : Out) : Prop := match w with
  | .inl e => o = f13_broughamref25_Same_out e
  | .inr e => At Tryd.prog Tryd.f13 0 9 ⟨[], [], [], 0⟩ o
theorem f13_broughamref25_Same_L4_ok (n : Nat) : ∀ (a : List (Int × Int × Int × Int × Int × Int × List Int)) (b : List (Int × Int × Int × Int × Int × Int × List Int)) (i : Int) (w : (Bool) ⊕ (Unit)) (h : f13_broughamref25_Same_L4 n a b i = some w) (o : Out) (hk : f13_broughamref25_Same_L4_k w o), At Tryd.prog Tryd.f13 0 4 ⟨[(0, oc (.d (.sl (.pair (.int .i64) (.pair (.int .i64) (.pair (.int .i64) (.pair (.int .i64) (.pair (.int .i64) (.pair (.int .i64) (.slice (.int .u8)))))))) a))), (1, oc (.d (.sl (.pair (.int .i64) (.pair (.int .i64) (.pair (.int .i64) (.pair (.int .i64) (.pair (.int .i64) (.pair (.int .i64) (.slice (.int .u8)))))))) b))), (5, oc (zi i))], [], [], 0⟩ o := by
  induction n with
  | zero => intro a b i w h; rw [f13_broughamref25_Same_L4] at h; cases h
  | succ n ih =>
    intro a b i w h o hk
    rw [f13_broughamref25_Same_L4] at h
    rcases iteS h with ⟨b329_e0, h⟩ | ⟨b329_e0, h⟩
    · refine At.step hm ht ⟨[], [true], [], [0, 1, 5], []⟩ 6 ⟨[(0, oc (.d (.sl (.pair (.int .i64) (.pair (.int .i64) (.pair (.int .i64) (.pair (.int .i64) (.pair (.int .i64) (.pair (.int .i64) (.slice (.int .u8)))))))) a))), (1, oc (.d (.sl (.pair (.int .i64) (.pair (.int .i64) (.pair (.int .i64) (.pair (.int .i64) (.pair (.int .i64) (.pair (.int .i64) (.slice (.int .u8)))))))) b))), (5, oc (zi i))], [], [], 0⟩ [(decide ((i : Int) < ((a.length : Nat) : Int))) = true] (by kernel_rfl) ⟨b329_e0, trivial⟩ ?_
      obtain ⟨g330_0, h⟩ := ifS h
      obtain ⟨g330_1, h⟩ := ifS h
      refine At.step hm ht ⟨[], [], [], [0, 1, 5, 6, 7], [8, 9]⟩ 7 ⟨[(0, oc (.d (.sl (.pair (.int .i64) (.pair (.int .i64) (.pair (.int .i64) (.pair (.int .i64) (.pair (.int .i64) (.pair (.int .i64) (.slice (.int .u8)))))))) a))), (1, oc (.d (.sl (.pair (.int .i64) (.pair (.int .i64) (.pair (.int .i64) (.pair (.int .i64) (.pair (.int .i64) (.pair (.int .i64) (.slice (.int .u8)))))))) b))), (5, oc (zi i)), (6, oc (.ptr 0 0)), (7, oc (.ptr 1 0))], [], [(0, [zi ((a.getD i.toNat (0, (0, (0, (0, (0, (0, []))))))).1), zi (((a.getD i.toNat (0, (0, (0, (0, (0, (0, []))))))).2).1), zi ((((a.getD i.toNat (0, (0, (0, (0, (0, (0, []))))))).2).2).1), zi (((((a.getD i.toNat (0, (0, (0, (0, (0, (0, []))))))).2).2).2).1), zi ((((((a.getD i.toNat (0, (0, (0, (0, (0, (0, []))))))).2).2).2).2).1), zi (((((((a.getD i.toNat (0, (0, (0, (0, (0, (0, []))))))).2).2).2).2).2).1), .d (.sl (.int .u8) (((((((a.getD i.toNat (0, (0, (0, (0, (0, (0, []))))))).2).2).2).2).2).2))]), (1, [zi ((b.getD i.toNat (0, (0, (0, (0, (0, (0, []))))))).1), zi (((b.getD i.toNat (0, (0, (0, (0, (0, (0, []))))))).2).1), zi ((((b.getD i.toNat (0, (0, (0, (0, (0, (0, []))))))).2).2).1), zi (((((b.getD i.toNat (0, (0, (0, (0, (0, (0, []))))))).2).2).2).1), zi ((((((b.getD i.toNat (0, (0, (0, (0, (0, (0, []))))))).2).2).2).2).1), zi (((((((b.getD i.toNat (0, (0, (0, (0, (0, (0, []))))))).2).2).2).2).2).1), .d (.sl (.int .u8) (((((((b.getD i.toNat (0, (0, (0, (0, (0, (0, []))))))).2).2).2).2).2).2))])], 2⟩ [(0 : Int) ≤ i ∧ i < (((a).length : Nat) : Int), (0 : Int) ≤ i ∧ i < (((b).length : Nat) : Int), 0 + 7 ≤ 7, 0 + 7 ≤ 7] (by kernel_rfl) ⟨g330_0, g330_1, (by decide), (by decide), trivial⟩ ?_
      rcases iteS h with ⟨b331_5, h⟩ | ⟨b331_5, h⟩
      · refine At.step hm ht ⟨[(5, .b true)], [true], [], [], []⟩ 8 ⟨[], [], [], 0⟩ [((((a.getD i.toNat (0, (0, (0, (0, (0, (0, []))))))).1) : Int) != ((b.getD i.toNat (0, (0, (0, (0, (0, (0, []))))))).1)) = true, true = true] (by kernel_rfl) ⟨b331_5, rfl, trivial⟩ ?_
        have h := Option.some.inj h
        subst h
        have hk : o = f13_broughamref25_Same_out false := hk
        subst hk
        exact At.fin hm ht ⟨[], [], [], [4], []⟩ [] (by kernel_rfl) trivial
      · rcases iteS h with ⟨b331_12, h⟩ | ⟨b331_12, h⟩
        · refine At.step hm ht ⟨[(5, .b false), (12, .b true)], [true], [], [], []⟩ 8 ⟨[], [], [], 0⟩ [((((a.getD i.toNat (0, (0, (0, (0, (0, (0, []))))))).1) : Int) != ((b.getD i.toNat (0, (0, (0, (0, (0, (0, []))))))).1)) = false, (((((a.getD i.toNat (0, (0, (0, (0, (0, (0, []))))))).2).1) : Int) != (((b.getD i.toNat (0, (0, (0, (0, (0, (0, []))))))).2).1)) = true, true = true] (by kernel_rfl) ⟨b331_5, b331_12, rfl, trivial⟩ ?_
          have h := Option.some.inj h
          subst h
          have hk : o = f13_broughamref25_Same_out false := hk
          subst hk
          exact At.fin hm ht ⟨[], [], [], [4], []⟩ [] (by kernel_rfl) trivial
        · rcases iteS h with ⟨b331_19, h⟩ | ⟨b331_19, h⟩
          · refine At.step hm ht ⟨[(5, .b false), (12, .b false), (19, .b true)], [true], [], [], []⟩ 8 ⟨[], [], [], 0⟩ [((((a.getD i.toNat (0, (0, (0, (0, (0, (0, []))))))).1) : Int) != ((b.getD i.toNat (0, (0, (0, (0, (0, (0, []))))))).1)) = false, (((((a.getD i.toNat (0, (0, (0, (0, (0, (0, []))))))).2).1) : Int) != (((b.getD i.toNat (0, (0, (0, (0, (0, (0, []))))))).2).1)) = false, ((((((a.getD i.toNat (0, (0, (0, (0, (0, (0, []))))))).2).2).1) : Int) != ((((b.getD i.toNat (0, (0, (0, (0, (0, (0, []))))))).2).2).1)) = true, true = true] (by kernel_rfl) ⟨b331_5, b331_12, b331_19, rfl, trivial⟩ ?_
            have h := Option.some.inj h
            subst h
            have hk : o = f13_broughamref25_Same_out false := hk
            subst hk
            exact At.fin hm ht ⟨[], [], [], [4], []⟩ [] (by kernel_rfl) trivial
          · rcases iteS h with ⟨b331_26, h⟩ | ⟨b331_26, h⟩
            · refine At.step hm ht ⟨[(5, .b false), (12, .b false), (19, .b false), (26, .b true)], [true], [], [], []⟩ 8 ⟨[], [], [], 0⟩ [((((a.getD i.toNat (0, (0, (0, (0, (0, (0, []))))))).1) : Int) != ((b.getD i.toNat (0, (0, (0, (0, (0, (0, []))))))).1)) = false, (((((a.getD i.toNat (0, (0, (0, (0, (0, (0, []))))))).2).1) : Int) != (((b.getD i.toNat (0, (0, (0, (0, (0, (0, []))))))).2).1)) = false, ((((((a.getD i.toNat (0, (0, (0, (0, (0, (0, []))))))).2).2).1) : Int) != ((((b.getD i.toNat (0, (0, (0, (0, (0, (0, []))))))).2).2).1)) = false, (((((((a.getD i.toNat (0, (0, (0, (0, (0, (0, []))))))).2).2).2).1) : Int) != (((((b.getD i.toNat (0, (0, (0, (0, (0, (0, []))))))).2).2).2).1)) = true, true = true] (by kernel_rfl) ⟨b331_5, b331_12, b331_19, b331_26, rfl, trivial⟩ ?_
              have h := Option.some.inj h
              subst h
              have hk : o = f13_broughamref25_Same_out false := hk
              subst hk
              exact At.fin hm ht ⟨[], [], [], [4], []⟩ [] (by kernel_rfl) trivial
            · rcases iteS h with ⟨b331_33, h⟩ | ⟨b331_33, h⟩
              · refine At.step hm ht ⟨[(5, .b false), (12, .b false), (19, .b false), (26, .b false), (33, .b true)], [true], [], [], []⟩ 8 ⟨[], [], [], 0⟩ [((((a.getD i.toNat (0, (0, (0, (0, (0, (0, []))))))).1) : Int) != ((b.getD i.toNat (0, (0, (0, (0, (0, (0, []))))))).1)) = false, (((((a.getD i.toNat (0, (0, (0, (0, (0, (0, []))))))).2).1) : Int) != (((b.getD i.toNat (0, (0, (0, (0, (0, (0, []))))))).2).1)) = false, ((((((a.getD i.toNat (0, (0, (0, (0, (0, (0, []))))))).2).2).1) : Int) != ((((b.getD i.toNat (0, (0, (0, (0, (0, (0, []))))))).2).2).1)) = false, (((((((a.getD i.toNat (0, (0, (0, (0, (0, (0, []))))))).2).2).2).1) : Int) != (((((b.getD i.toNat (0, (0, (0, (0, (0, (0, []))))))).2).2).2).1)) = false, ((((((((a.getD i.toNat (0, (0, (0, (0, (0, (0, []))))))).2).2).2).2).1) : Int) != ((((((b.getD i.toNat (0, (0, (0, (0, (0, (0, []))))))).2).2).2).2).1)) = true, true = true] (by kernel_rfl) ⟨b331_5, b331_12, b331_19, b331_26, b331_33, rfl, trivial⟩ ?_
                have h := Option.some.inj h
                subst h
                have hk : o = f13_broughamref25_Same_out false := hk
                subst hk
                exact At.fin hm ht ⟨[], [], [], [4], []⟩ [] (by kernel_rfl) trivial
              · rcases iteS h with ⟨b331_40, h⟩ | ⟨b331_40, h⟩
                · refine At.step hm ht ⟨[(5, .b false), (12, .b false), (19, .b false), (26, .b false), (33, .b false), (40, .b true)], [true], [], [], []⟩ 8 ⟨[], [], [], 0⟩ [((((a.getD i.toNat (0, (0, (0, (0, (0, (0, []))))))).1) : Int) != ((b.getD i.toNat (0, (0, (0, (0, (0, (0, []))))))).1)) = false, (((((a.getD i.toNat (0, (0, (0, (0, (0, (0, []))))))).2).1) : Int) != (((b.getD i.toNat (0, (0, (0, (0, (0, (0, []))))))).2).1)) = false, ((((((a.getD i.toNat (0, (0, (0, (0, (0, (0, []))))))).2).2).1) : Int) != ((((b.getD i.toNat (0, (0, (0, (0, (0, (0, []))))))).2).2).1)) = false, (((((((a.getD i.toNat (0, (0, (0, (0, (0, (0, []))))))).2).2).2).1) : Int) != (((((b.getD i.toNat (0, (0, (0, (0, (0, (0, []))))))).2).2).2).1)) = false, ((((((((a.getD i.toNat (0, (0, (0, (0, (0, (0, []))))))).2).2).2).2).1) : Int) != ((((((b.getD i.toNat (0, (0, (0, (0, (0, (0, []))))))).2).2).2).2).1)) = false, (((((((((a.getD i.toNat (0, (0, (0, (0, (0, (0, []))))))).2).2).2).2).2).1) : Int) != (((((((b.getD i.toNat (0, (0, (0, (0, (0, (0, []))))))).2).2).2).2).2).1)) = true, true = true] (by kernel_rfl) ⟨b331_5, b331_12, b331_19, b331_26, b331_33, b331_40, rfl, trivial⟩ ?_
                  have h := Option.some.inj h
                  subst h
                  have hk : o = f13_broughamref25_Same_out false := hk
                  subst hk
                  exact At.fin hm ht ⟨[], [], [], [4], []⟩ [] (by kernel_rfl) trivial
                · rcases iteS h with ⟨b331_e0, h⟩ | ⟨b331_e0, h⟩
                  · refine At.step hm ht ⟨[(5, .b false), (12, .b false), (19, .b false), (26, .b false), (33, .b false), (40, .b false)], [true], [], [], []⟩ 8 ⟨[], [], [], 0⟩ [((((a.getD i.toNat (0, (0, (0, (0, (0, (0, []))))))).1) : Int) != ((b.getD i.toNat (0, (0, (0, (0, (0, (0, []))))))).1)) = false, (((((a.getD i.toNat (0, (0, (0, (0, (0, (0, []))))))).2).1) : Int) != (((b.getD i.toNat (0, (0, (0, (0, (0, (0, []))))))).2).1)) = false, ((((((a.getD i.toNat (0, (0, (0, (0, (0, (0, []))))))).2).2).1) : Int) != ((((b.getD i.toNat (0, (0, (0, (0, (0, (0, []))))))).2).2).1)) = false, (((((((a.getD i.toNat (0, (0, (0, (0, (0, (0, []))))))).2).2).2).1) : Int) != (((((b.getD i.toNat (0, (0, (0, (0, (0, (0, []))))))).2).2).2).1)) = false, ((((((((a.getD i.toNat (0, (0, (0, (0, (0, (0, []))))))).2).2).2).2).1) : Int) != ((((((b.getD i.toNat (0, (0, (0, (0, (0, (0, []))))))).2).2).2).2).1)) = false, (((((((((a.getD i.toNat (0, (0, (0, (0, (0, (0, []))))))).2).2).2).2).2).1) : Int) != (((((((b.getD i.toNat (0, (0, (0, (0, (0, (0, []))))))).2).2).2).2).2).1)) = false, (!((strOfNums (((((((a.getD i.toNat (0, (0, (0, (0, (0, (0, []))))))).2).2).2).2).2).2)).toList == (strOfNums (((((((b.getD i.toNat (0, (0, (0, (0, (0, (0, []))))))).2).2).2).2).2).2)).toList)) = true] (by kernel_rfl) ⟨b331_5, b331_12, b331_19, b331_26, b331_33, b331_40, b331_e0, trivial⟩ ?_
                    have h := Option.some.inj h
                    subst h
                    have hk : o = f13_broughamref25_Same_out false := hk
                    subst hk
                    exact At.fin hm ht ⟨[], [], [], [4], []⟩ [] (by kernel_rfl) trivial
                  · refine At.step hm ht ⟨[(5, .b false), (12, .b false), (19, .b false), (26, .b false), (33, .b false), (40, .b false)], [false], [], [0, 1, 5], []⟩ 5 ⟨[(0, oc (.d (.sl (.pair (.int .i64) (.pair (.int .i64) (.pair (.int .i64) (.pair (.int .i64) (.pair (.int .i64) (.pair (.int .i64) (.slice (.int .u8)))))))) a))), (1, oc (.d (.sl (.pair (.int .i64) (.pair (.int .i64) (.pair (.int .i64) (.pair (.int .i64) (.pair (.int .i64) (.pair (.int .i64) (.slice (.int .u8)))))))) b))), (5, oc (zi i))], [], [], 0⟩ [((((a.getD i.toNat (0, (0, (0, (0, (0, (0, []))))))).1) : Int) != ((b.getD i.toNat (0, (0, (0, (0, (0, (0, []))))))).1)) = false, (((((a.getD i.toNat (0, (0, (0, (0, (0, (0, []))))))).2).1) : Int) != (((b.getD i.toNat (0, (0, (0, (0, (0, (0, []))))))).2).1)) = false, ((((((a.getD i.toNat (0, (0, (0, (0, (0, (0, []))))))).2).2).1) : Int) != ((((b.getD i.toNat (0, (0, (0, (0, (0, (0, []))))))).2).2).1)) = false, (((((((a.getD i.toNat (0, (0, (0, (0, (0, (0, []))))))).2).2).2).1) : Int) != (((((b.getD i.toNat (0, (0, (0, (0, (0, (0, []))))))).2).2).2).1)) = false, ((((((((a.getD i.toNat (0, (0, (0, (0, (0, (0, []))))))).2).2).2).2).1) : Int) != ((((((b.getD i.toNat (0, (0, (0, (0, (0, (0, []))))))).2).2).2).2).1)) = false, (((((((((a.getD i.toNat (0, (0, (0, (0, (0, (0, []))))))).2).2).2).2).2).1) : Int) != (((((((b.getD i.toNat (0, (0, (0, (0, (0, (0, []))))))).2).2).2).2).2).1)) = false, (!((strOfNums (((((((a.getD i.toNat (0, (0, (0, (0, (0, (0, []))))))).2).2).2).2).2).2)).toList == (strOfNums (((((((b.getD i.toNat (0, (0, (0, (0, (0, (0, []))))))).2).2).2).2).2).2)).toList)) = false] (by kernel_rfl) ⟨b331_5, b331_12, b331_19, b331_26, b331_33, b331_40, b331_e0, trivial⟩ ?_
                    refine At.step hm ht ⟨[], [], [], [0, 1, 5], []⟩ 4 ⟨[(0, oc (.d (.sl (.pair (.int .i64) (.pair (.int .i64) (.pair (.int .i64) (.pair (.int .i64) (.pair (.int .i64) (.pair (.int .i64) (.slice (.int .u8)))))))) a))), (1, oc (.d (.sl (.pair (.int .i64) (.pair (.int .i64) (.pair (.int .i64) (.pair (.int .i64) (.pair (.int .i64) (.pair (.int .i64) (.slice (.int .u8)))))))) b))), (5, oc (zi (IntKind.wrap .i64 (i + 1))))], [], [], 0⟩ [] (by kernel_rfl) trivial ?_
                    exact ih a b (IntKind.wrap .i64 (i + 1)) w h o hk
    · refine At.step hm ht ⟨[], [false], [], [], []⟩ 9 ⟨[], [], [], 0⟩ [(decide ((i : Int) < ((a.length : Nat) : Int))) = false] (by kernel_rfl) ⟨b329_e0, trivial⟩ ?_
      have h := Option.some.inj h
      subst h
      exact hk
def f13_broughamref25_Same (n : Nat) (a : List (Int × Int × Int × Int × Int × Int × List Int)) (b : List (Int × Int × Int × Int × Int × Int × List Int)) : Option (Bool) :=
  if ((((a.length : Nat) : Int) : Int) != ((b.length : Nat) : Int)) = true then
    some false
  else
    (f13_broughamref25_Same_L4 n a b 0).bind fun w340 =>
    match w340 with
    | .inl e341 =>
      some e341
    | .inr e342 =>
      some true
theorem f13_broughamref25_Same_ok (n : Nat) (a : List (Int × Int × Int × Int × Int × Int × List Int)) (b : List (Int × Int × Int × Int × Int × Int × List Int)) (r : Bool) (h : f13_broughamref25_Same n a b = some r) : FnOK Tryd.prog 13 (f13_broughamref25_Same_in a b) (f13_broughamref25_Same_out r) := by
  unfold f13_broughamref25_Same at h
  refine At.fn (r := 0) Tryd.func13 rfl (by kernel_rfl) rfl rfl (by kernel_rfl) ?_
  show At Tryd.prog Tryd.f13 0 0 ⟨[(0, oc (.d (.sl (.pair (.int .i64) (.pair (.int .i64) (.pair (.int .i64) (.pair (.int .i64) (.pair (.int .i64) (.pair (.int .i64) (.slice (.int .u8)))))))) a))), (1, oc (.d (.sl (.pair (.int .i64) (.pair (.int .i64) (.pair (.int .i64) (.pair (.int .i64) (.pair (.int .i64) (.pair (.int .i64) (.slice (.int .u8)))))))) b)))], [], [], 0⟩ _
  refine At.step hm ht ⟨[], [], [], [0, 1], []⟩ 1 ⟨[(0, oc (.d (.sl (.pair (.int .i64) (.pair (.int .i64) (.pair (.int .i64) (.pair (.int .i64) (.pair (.int .i64) (.pair (.int .i64) (.slice (.int .u8)))))))) a))), (1, oc (.d (.sl (.pair (.int .i64) (.pair (.int .i64) (.pair (.int .i64) (.pair (.int .i64) (.pair (.int .i64) (.pair (.int .i64) (.slice (.int .u8)))))))) b)))], [], [], 0⟩ [] (by kernel_rfl) trivial ?_
  rcases iteS h with ⟨b326_e0, h⟩ | ⟨b326_e0, h⟩
  · refine At.step hm ht ⟨[], [true], [], [], []⟩ 2 ⟨[], [], [], 0⟩ [((((a.length : Nat) : Int) : Int) != ((b.length : Nat) : Int)) = true] (by kernel_rfl) ⟨b326_e0, trivial⟩ ?_
    have h := Option.some.inj h
    subst h
    exact At.fin hm ht ⟨[], [], [], [4], []⟩ [] (by kernel_rfl) trivial
  · refine At.step hm ht ⟨[], [false], [], [0, 1], []⟩ 3 ⟨[(0, oc (.d (.sl (.pair (.int .i64) (.pair (.int .i64) (.pair (.int .i64) (.pair (.int .i64) (.pair (.int .i64) (.pair (.int .i64) (.slice (.int .u8)))))))) a))), (1, oc (.d (.sl (.pair (.int .i64) (.pair (.int .i64) (.pair (.int .i64) (.pair (.int .i64) (.pair (.int .i64) (.pair (.int .i64) (.slice (.int .u8)))))))) b)))], [], [], 0⟩ [((((a.length : Nat) : Int) : Int) != ((b.length : Nat) : Int)) = false] (by kernel_rfl) ⟨b326_e0, trivial⟩ ?_
    refine At.step hm ht ⟨[], [], [], [0, 1, 5], []⟩ 4 ⟨[(0, oc (.d (.sl (.pair (.int .i64) (.pair (.int .i64) (.pair (.int .i64) (.pair (.int .i64) (.pair (.int .i64) (.pair (.int .i64) (.slice (.int .u8)))))))) a))), (1, oc (.d (.sl (.pair (.int .i64) (.pair (.int .i64) (.pair (.int .i64) (.pair (.int .i64) (.pair (.int .i64) (.pair (.int .i64) (.slice (.int .u8)))))))) b))), (5, oc (zi 0))], [], [], 0⟩ [] (by kernel_rfl) trivial ?_
    obtain ⟨w340, cw340, h⟩ := bindS h
    refine f13_broughamref25_Same_L4_ok n a b 0 w340 cw340 _ ?_
    rcases w340 with e341 | e342
    · have h := Option.some.inj h
      subst h
      rfl
    · show At Tryd.prog Tryd.f13 0 9 ⟨[], [], [], 0⟩ _
      have h := Option.some.inj h
      subst h
      exact At.fin hm ht ⟨[], [], [], [4], []⟩ [] (by kernel_rfl) trivial
/-! brougham/broughamlaw25.alive -/
def f14_broughamlaw25_alive_in : Inn := ⟨[], [], [], 0⟩
def f14_broughamlaw25_alive_out (r : Bool) : Out := ⟨oc (.d (.bool r)), [], [], 0⟩
def f14_broughamlaw25_alive (n : Nat) : Option (Bool) :=
  (f11_script_Parse n (⟨#[99, 111, 110, 110, 101, 99, 116, 32, 48, 32, 53, 32, 56, 48, 32, 49]⟩ : ByteArray)).bind fun r349_0 =>
  (f11_script_Parse n (⟨#[116, 105, 99, 107]⟩ : ByteArray)).bind fun r350_0 =>
  if ((r349_0.2.2 : Int) == 0) = true then
    if ((r349_0.2.1 : Int) == 0) = true then
      if ((((r349_0.1.length : Nat) : Int) : Int) == 1) = true then
        if (0 : Int) ≤ 0 ∧ 0 < (((r349_0.1).length : Nat) : Int) then
        if ((((r349_0.1.getD 0 (0, (0, (0, (0, (0, (0, []))))))).1) : Int) == 2) = true then
          if (0 : Int) ≤ 0 ∧ 0 < (((r349_0.1).length : Nat) : Int) then
          if ((((((r349_0.1.getD 0 (0, (0, (0, (0, (0, (0, []))))))).2).2).1) : Int) == 5) = true then
            if (0 : Int) ≤ 0 ∧ 0 < (((r349_0.1).length : Nat) : Int) then
            if (((((((r349_0.1.getD 0 (0, (0, (0, (0, (0, (0, []))))))).2).2).2).1) : Int) == 80) = true then
              if (0 : Int) ≤ 0 ∧ 0 < (((r349_0.1).length : Nat) : Int) then
              if ((((((((r349_0.1.getD 0 (0, (0, (0, (0, (0, (0, []))))))).2).2).2).2).1) : Int) == 1) = true then
                if ((r350_0.2.1 : Int) == 1) = true then
                  some ((r350_0.2.2 : Int) == 230)
                else
                  some false
              else
                some false
              else none
            else
              some false
            else none
          else
            some false
          else none
        else
          some false
        else none
      else
        some false
    else
      some false
  else
    some false
theorem f14_broughamlaw25_alive_ok (n : Nat) (r : Bool) (h : f14_broughamlaw25_alive n = some r) : FnOK Tryd.prog 14 (f14_broughamlaw25_alive_in) (f14_broughamlaw25_alive_out r) := by
  unfold f14_broughamlaw25_alive at h
  refine At.fn (r := 0) Tryd.func14 rfl (by kernel_rfl) rfl rfl (by kernel_rfl) ?_
  show At Tryd.prog Tryd.f14 0 0 ⟨[], [], [], 0⟩ _
  refine At.step hm ht ⟨[], [], [], [], []⟩ 1 ⟨[], [], [], 0⟩ [] (by kernel_rfl) trivial ?_
  obtain ⟨r349_0, cr349_0, h⟩ := bindS h
  refine At.step hm ht ⟨[(0, .call [] [] (f11_script_Parse_out r349_0))], [], [], [1, 2, 3], [0]⟩ 2 ⟨[(1, oc (.own 0 (.pair (.int .i64) (.pair (.int .i64) (.pair (.int .i64) (.pair (.int .i64) (.pair (.int .i64) (.pair (.int .i64) (.slice (.int .u8)))))))) r349_0.1)), (2, oc (zi r349_0.2.1)), (3, oc (zi r349_0.2.2))], [(0, some ⟨79, 0⟩)], [], 1⟩ [FnOK Tryd.prog 11 (f11_script_Parse_in (⟨#[99, 111, 110, 110, 101, 99, 116, 32, 48, 32, 53, 32, 56, 48, 32, 49]⟩ : ByteArray)) (f11_script_Parse_out r349_0)] (by kernel_rfl) ⟨(f11_script_Parse_ok n (⟨#[99, 111, 110, 110, 101, 99, 116, 32, 48, 32, 53, 32, 56, 48, 32, 49]⟩ : ByteArray) r349_0 cr349_0), trivial⟩ ?_
  obtain ⟨r350_0, cr350_0, h⟩ := bindS h
  refine At.step hm ht ⟨[(0, .call [] [] (f11_script_Parse_out r350_0))], [], [], [1, 2, 3, 5, 6], [0]⟩ 3 ⟨[(1, oc (.own 0 (.pair (.int .i64) (.pair (.int .i64) (.pair (.int .i64) (.pair (.int .i64) (.pair (.int .i64) (.pair (.int .i64) (.slice (.int .u8)))))))) r349_0.1)), (2, oc (zi r349_0.2.1)), (3, oc (zi r349_0.2.2)), (5, oc (zi r350_0.2.1)), (6, oc (zi r350_0.2.2))], [(0, some ⟨79, 0⟩)], [], 1⟩ [FnOK Tryd.prog 11 (f11_script_Parse_in (⟨#[116, 105, 99, 107]⟩ : ByteArray)) (f11_script_Parse_out r350_0)] (by kernel_rfl) ⟨(f11_script_Parse_ok n (⟨#[116, 105, 99, 107]⟩ : ByteArray) r350_0 cr350_0), trivial⟩ ?_
  rcases iteS h with ⟨b351_2, h⟩ | ⟨b351_2, h⟩
  · rcases iteS h with ⟨b351_6, h⟩ | ⟨b351_6, h⟩
    · rcases iteS h with ⟨b351_11, h⟩ | ⟨b351_11, h⟩
      · obtain ⟨g351_0, h⟩ := ifS h
        rcases iteS h with ⟨b351_18, h⟩ | ⟨b351_18, h⟩
        · obtain ⟨g351_1, h⟩ := ifS h
          rcases iteS h with ⟨b351_25, h⟩ | ⟨b351_25, h⟩
          · obtain ⟨g351_2, h⟩ := ifS h
            rcases iteS h with ⟨b351_32, h⟩ | ⟨b351_32, h⟩
            · obtain ⟨g351_3, h⟩ := ifS h
              rcases iteS h with ⟨b351_39, h⟩ | ⟨b351_39, h⟩
              · rcases iteS h with ⟨b351_43, h⟩ | ⟨b351_43, h⟩
                · have h := Option.some.inj h
                  subst h
                  exact At.fin hm ht ⟨[(2, .b true), (6, .b true), (11, .b true), (18, .b true), (25, .b true), (32, .b true), (39, .b true), (43, .b true)], [], [], [0], []⟩ [((r349_0.2.2 : Int) == 0) = true, ((r349_0.2.1 : Int) == 0) = true, ((((r349_0.1.length : Nat) : Int) : Int) == 1) = true, (0 : Int) ≤ 0 ∧ 0 < (((r349_0.1).length : Nat) : Int), ((((r349_0.1.getD 0 (0, (0, (0, (0, (0, (0, []))))))).1) : Int) == 2) = true, (0 : Int) ≤ 0 ∧ 0 < (((r349_0.1).length : Nat) : Int), ((((((r349_0.1.getD 0 (0, (0, (0, (0, (0, (0, []))))))).2).2).1) : Int) == 5) = true, (0 : Int) ≤ 0 ∧ 0 < (((r349_0.1).length : Nat) : Int), (((((((r349_0.1.getD 0 (0, (0, (0, (0, (0, (0, []))))))).2).2).2).1) : Int) == 80) = true, (0 : Int) ≤ 0 ∧ 0 < (((r349_0.1).length : Nat) : Int), ((((((((r349_0.1.getD 0 (0, (0, (0, (0, (0, (0, []))))))).2).2).2).2).1) : Int) == 1) = true, ((r350_0.2.1 : Int) == 1) = true] (by kernel_rfl) ⟨b351_2, b351_6, b351_11, g351_0, b351_18, g351_1, b351_25, g351_2, b351_32, g351_3, b351_39, b351_43, trivial⟩
                · have h := Option.some.inj h
                  subst h
                  exact At.fin hm ht ⟨[(2, .b true), (6, .b true), (11, .b true), (18, .b true), (25, .b true), (32, .b true), (39, .b true), (43, .b false)], [], [], [0], []⟩ [((r349_0.2.2 : Int) == 0) = true, ((r349_0.2.1 : Int) == 0) = true, ((((r349_0.1.length : Nat) : Int) : Int) == 1) = true, (0 : Int) ≤ 0 ∧ 0 < (((r349_0.1).length : Nat) : Int), ((((r349_0.1.getD 0 (0, (0, (0, (0, (0, (0, []))))))).1) : Int) == 2) = true, (0 : Int) ≤ 0 ∧ 0 < (((r349_0.1).length : Nat) : Int), ((((((r349_0.1.getD 0 (0, (0, (0, (0, (0, (0, []))))))).2).2).1) : Int) == 5) = true, (0 : Int) ≤ 0 ∧ 0 < (((r349_0.1).length : Nat) : Int), (((((((r349_0.1.getD 0 (0, (0, (0, (0, (0, (0, []))))))).2).2).2).1) : Int) == 80) = true, (0 : Int) ≤ 0 ∧ 0 < (((r349_0.1).length : Nat) : Int), ((((((((r349_0.1.getD 0 (0, (0, (0, (0, (0, (0, []))))))).2).2).2).2).1) : Int) == 1) = true, ((r350_0.2.1 : Int) == 1) = false] (by kernel_rfl) ⟨b351_2, b351_6, b351_11, g351_0, b351_18, g351_1, b351_25, g351_2, b351_32, g351_3, b351_39, b351_43, trivial⟩
              · have h := Option.some.inj h
                subst h
                exact At.fin hm ht ⟨[(2, .b true), (6, .b true), (11, .b true), (18, .b true), (25, .b true), (32, .b true), (39, .b false)], [], [], [0], []⟩ [((r349_0.2.2 : Int) == 0) = true, ((r349_0.2.1 : Int) == 0) = true, ((((r349_0.1.length : Nat) : Int) : Int) == 1) = true, (0 : Int) ≤ 0 ∧ 0 < (((r349_0.1).length : Nat) : Int), ((((r349_0.1.getD 0 (0, (0, (0, (0, (0, (0, []))))))).1) : Int) == 2) = true, (0 : Int) ≤ 0 ∧ 0 < (((r349_0.1).length : Nat) : Int), ((((((r349_0.1.getD 0 (0, (0, (0, (0, (0, (0, []))))))).2).2).1) : Int) == 5) = true, (0 : Int) ≤ 0 ∧ 0 < (((r349_0.1).length : Nat) : Int), (((((((r349_0.1.getD 0 (0, (0, (0, (0, (0, (0, []))))))).2).2).2).1) : Int) == 80) = true, (0 : Int) ≤ 0 ∧ 0 < (((r349_0.1).length : Nat) : Int), ((((((((r349_0.1.getD 0 (0, (0, (0, (0, (0, (0, []))))))).2).2).2).2).1) : Int) == 1) = false] (by kernel_rfl) ⟨b351_2, b351_6, b351_11, g351_0, b351_18, g351_1, b351_25, g351_2, b351_32, g351_3, b351_39, trivial⟩
            · have h := Option.some.inj h
              subst h
              exact At.fin hm ht ⟨[(2, .b true), (6, .b true), (11, .b true), (18, .b true), (25, .b true), (32, .b false)], [], [], [0], []⟩ [((r349_0.2.2 : Int) == 0) = true, ((r349_0.2.1 : Int) == 0) = true, ((((r349_0.1.length : Nat) : Int) : Int) == 1) = true, (0 : Int) ≤ 0 ∧ 0 < (((r349_0.1).length : Nat) : Int), ((((r349_0.1.getD 0 (0, (0, (0, (0, (0, (0, []))))))).1) : Int) == 2) = true, (0 : Int) ≤ 0 ∧ 0 < (((r349_0.1).length : Nat) : Int), ((((((r349_0.1.getD 0 (0, (0, (0, (0, (0, (0, []))))))).2).2).1) : Int) == 5) = true, (0 : Int) ≤ 0 ∧ 0 < (((r349_0.1).length : Nat) : Int), (((((((r349_0.1.getD 0 (0, (0, (0, (0, (0, (0, []))))))).2).2).2).1) : Int) == 80) = false] (by kernel_rfl) ⟨b351_2, b351_6, b351_11, g351_0, b351_18, g351_1, b351_25, g351_2, b351_32, trivial⟩
          · have h := Option.some.inj h
            subst h
            exact At.fin hm ht ⟨[(2, .b true), (6, .b true), (11, .b true), (18, .b true), (25, .b false)], [], [], [0], []⟩ [((r349_0.2.2 : Int) == 0) = true, ((r349_0.2.1 : Int) == 0) = true, ((((r349_0.1.length : Nat) : Int) : Int) == 1) = true, (0 : Int) ≤ 0 ∧ 0 < (((r349_0.1).length : Nat) : Int), ((((r349_0.1.getD 0 (0, (0, (0, (0, (0, (0, []))))))).1) : Int) == 2) = true, (0 : Int) ≤ 0 ∧ 0 < (((r349_0.1).length : Nat) : Int), ((((((r349_0.1.getD 0 (0, (0, (0, (0, (0, (0, []))))))).2).2).1) : Int) == 5) = false] (by kernel_rfl) ⟨b351_2, b351_6, b351_11, g351_0, b351_18, g351_1, b351_25, trivial⟩
        · have h := Option.some.inj h
          subst h
          exact At.fin hm ht ⟨[(2, .b true), (6, .b true), (11, .b true), (18, .b false)], [], [], [0], []⟩ [((r349_0.2.2 : Int) == 0) = true, ((r349_0.2.1 : Int) == 0) = true, ((((r349_0.1.length : Nat) : Int) : Int) == 1) = true, (0 : Int) ≤ 0 ∧ 0 < (((r349_0.1).length : Nat) : Int), ((((r349_0.1.getD 0 (0, (0, (0, (0, (0, (0, []))))))).1) : Int) == 2) = false] (by kernel_rfl) ⟨b351_2, b351_6, b351_11, g351_0, b351_18, trivial⟩
      · have h := Option.some.inj h
        subst h
        exact At.fin hm ht ⟨[(2, .b true), (6, .b true), (11, .b false)], [], [], [0], []⟩ [((r349_0.2.2 : Int) == 0) = true, ((r349_0.2.1 : Int) == 0) = true, ((((r349_0.1.length : Nat) : Int) : Int) == 1) = false] (by kernel_rfl) ⟨b351_2, b351_6, b351_11, trivial⟩
    · have h := Option.some.inj h
      subst h
      exact At.fin hm ht ⟨[(2, .b true), (6, .b false)], [], [], [0], []⟩ [((r349_0.2.2 : Int) == 0) = true, ((r349_0.2.1 : Int) == 0) = false] (by kernel_rfl) ⟨b351_2, b351_6, trivial⟩
  · have h := Option.some.inj h
    subst h
    exact At.fin hm ht ⟨[(2, .b false)], [], [], [0], []⟩ [((r349_0.2.2 : Int) == 0) = false] (by kernel_rfl) ⟨b351_2, trivial⟩
/-! brougham/script.Same -/
def f42_script_Same_in (a : List (Int × Int × Int × Int × Int × Int × List Int)) (b : List (Int × Int × Int × Int × Int × Int × List Int)) : Inn := ⟨[.c (.d (.sl (.pair (.int .i64) (.pair (.int .i64) (.pair (.int .i64) (.pair (.int .i64) (.pair (.int .i64) (.pair (.int .i64) (.slice (.int .u8)))))))) a)), .c (.d (.sl (.pair (.int .i64) (.pair (.int .i64) (.pair (.int .i64) (.pair (.int .i64) (.pair (.int .i64) (.pair (.int .i64) (.slice (.int .u8)))))))) b))], [], [], 0⟩
def f42_script_Same_out (r : Bool) : Out := ⟨oc (.d (.bool r)), [], [], 0⟩
def f42_script_Same_L4 : Nat → (List (Int × Int × Int × Int × Int × Int × List Int)) → (List (Int × Int × Int × Int × Int × Int × List Int)) → Int → Int → Option ((Bool) ⊕ (Unit))
  | 0, _, _, _, _ => none
  | n + 1, b, t13, t14, t15 =>
    if (decide ((t15 : Int) < t14)) = true then
      if (0 : Int) ≤ t15 ∧ t15 < (((t13).length : Nat) : Int) then
      if (0 : Int) ≤ t15 ∧ t15 < (((b).length : Nat) : Int) then
      if ((((t13.getD t15.toNat (0, (0, (0, (0, (0, (0, []))))))).1) : Int) != ((b.getD t15.toNat (0, (0, (0, (0, (0, (0, []))))))).1)) = true then
        some (.inl false)
      else
        if (((((t13.getD t15.toNat (0, (0, (0, (0, (0, (0, []))))))).2).1) : Int) != (((b.getD t15.toNat (0, (0, (0, (0, (0, (0, []))))))).2).1)) = true then
          some (.inl false)
        else
          if ((((((t13.getD t15.toNat (0, (0, (0, (0, (0, (0, []))))))).2).2).1) : Int) != ((((b.getD t15.toNat (0, (0, (0, (0, (0, (0, []))))))).2).2).1)) = true then
            some (.inl false)
          else
            if (((((((t13.getD t15.toNat (0, (0, (0, (0, (0, (0, []))))))).2).2).2).1) : Int) != (((((b.getD t15.toNat (0, (0, (0, (0, (0, (0, []))))))).2).2).2).1)) = true then
              some (.inl false)
            else
              if ((((((((t13.getD t15.toNat (0, (0, (0, (0, (0, (0, []))))))).2).2).2).2).1) : Int) != ((((((b.getD t15.toNat (0, (0, (0, (0, (0, (0, []))))))).2).2).2).2).1)) = true then
                some (.inl false)
              else
                if (((((((((t13.getD t15.toNat (0, (0, (0, (0, (0, (0, []))))))).2).2).2).2).2).1) : Int) != (((((((b.getD t15.toNat (0, (0, (0, (0, (0, (0, []))))))).2).2).2).2).2).1)) = true then
                  some (.inl false)
                else
                  if (!((strOfNums (((((((t13.getD t15.toNat (0, (0, (0, (0, (0, (0, []))))))).2).2).2).2).2).2)).toList == (strOfNums (((((((b.getD t15.toNat (0, (0, (0, (0, (0, (0, []))))))).2).2).2).2).2).2)).toList)) = true then
                    some (.inl false)
                  else
                    f42_script_Same_L4 n b t13 t14 (IntKind.wrap .i64 (t15 + 1))
      else none
      else none
    else
      some (.inr ())
def f42_script_Same_L4_k (w : (Bool) ⊕ (Unit)) (o : Out) : Prop := match w with
  | .inl e => o = f42_script_Same_out e
  | .inr e => At Tryd.prog Tryd.f42 0 10 ⟨[], [], [], 0⟩ o
theorem f42_script_Same_L4_ok (n : Nat) : ∀ (b : List (Int × Int × Int × Int × Int × Int × List Int)) (t13 : List (Int × Int × Int × Int × Int × Int × List Int)) (t14 : Int) (t15 : Int) (w : (Bool) ⊕ (Unit)) (h : f42_script_Same_L4 n b t13 t14 t15 = some w) (o : Out) (hk : f42_script_Same_L4_k w o), At Tryd.prog Tryd.f42 0 4 ⟨[(1, oc (.d (.sl (.pair (.int .i64) (.pair (.int .i64) (.pair (.int .i64) (.pair (.int .i64) (.pair (.int .i64) (.pair (.int .i64) (.slice (.int .u8)))))))) b))), (13, oc (.d (.sl (.pair (.int .i64) (.pair (.int .i64) (.pair (.int .i64) (.pair (.int .i64) (.pair (.int .i64) (.pair (.int .i64) (.slice (.int .u8)))))))) t13))), (14, oc (zi t14)), (15, oc (zi t15))], [], [], 0⟩ o := by
  induction n with
  | zero => intro b t13 t14 t15 w h; rw [f42_script_Same_L4] at h; cases h
  | succ n ih =>
    intro b t13 t14 t15 w h o hk
    rw [f42_script_Same_L4] at h
    rcases iteS h with ⟨b359_e0, h⟩ | ⟨b359_e0, h⟩
    · refine At.step hm ht ⟨[], [true], [], [1, 13, 14, 15], []⟩ 5 ⟨[(1, oc (.d (.sl (.pair (.int .i64) (.pair (.int .i64) (.pair (.int .i64) (.pair (.int .i64) (.pair (.int .i64) (.pair (.int .i64) (.slice (.int .u8)))))))) b))), (13, oc (.d (.sl (.pair (.int .i64) (.pair (.int .i64) (.pair (.int .i64) (.pair (.int .i64) (.pair (.int .i64) (.pair (.int .i64) (.slice (.int .u8)))))))) t13))), (14, oc (zi t14)), (15, oc (zi t15))], [], [], 0⟩ [(decide ((t15 : Int) < t14)) = true] (by kernel_rfl) ⟨b359_e0, trivial⟩ ?_
      obtain ⟨g360_0, h⟩ := ifS h
      refine At.step hm ht ⟨[], [], [], [1, 5, 6, 13, 14, 15], [3]⟩ 6 ⟨[(1, oc (.d (.sl (.pair (.int .i64) (.pair (.int .i64) (.pair (.int .i64) (.pair (.int .i64) (.pair (.int .i64) (.pair (.int .i64) (.slice (.int .u8)))))))) b))), (5, oc (zi t15)), (6, oc (.ptr 0 0)), (13, oc (.d (.sl (.pair (.int .i64) (.pair (.int .i64) (.pair (.int .i64) (.pair (.int .i64) (.pair (.int .i64) (.pair (.int .i64) (.slice (.int .u8)))))))) t13))), (14, oc (zi t14)), (15, oc (zi t15))], [], [(0, [zi ((t13.getD t15.toNat (0, (0, (0, (0, (0, (0, []))))))).1), zi (((t13.getD t15.toNat (0, (0, (0, (0, (0, (0, []))))))).2).1), zi ((((t13.getD t15.toNat (0, (0, (0, (0, (0, (0, []))))))).2).2).1), zi (((((t13.getD t15.toNat (0, (0, (0, (0, (0, (0, []))))))).2).2).2).1), zi ((((((t13.getD t15.toNat (0, (0, (0, (0, (0, (0, []))))))).2).2).2).2).1), zi (((((((t13.getD t15.toNat (0, (0, (0, (0, (0, (0, []))))))).2).2).2).2).2).1), .d (.sl (.int .u8) (((((((t13.getD t15.toNat (0, (0, (0, (0, (0, (0, []))))))).2).2).2).2).2).2))])], 1⟩ [(0 : Int) ≤ t15 ∧ t15 < (((t13).length : Nat) : Int), 0 + 7 ≤ 7] (by kernel_rfl) ⟨g360_0, (by decide), trivial⟩ ?_
      obtain ⟨g361_0, h⟩ := ifS h
      refine At.step hm ht ⟨[], [], [], [1, 6, 7, 13, 14, 15], [0, 5]⟩ 7 ⟨[(1, oc (.d (.sl (.pair (.int .i64) (.pair (.int .i64) (.pair (.int .i64) (.pair (.int .i64) (.pair (.int .i64) (.pair (.int .i64) (.slice (.int .u8)))))))) b))), (6, oc (.ptr 0 0)), (7, oc (.ptr 1 0)), (13, oc (.d (.sl (.pair (.int .i64) (.pair (.int .i64) (.pair (.int .i64) (.pair (.int .i64) (.pair (.int .i64) (.pair (.int .i64) (.slice (.int .u8)))))))) t13))), (14, oc (zi t14)), (15, oc (zi t15))], [], [(0, [zi ((t13.getD t15.toNat (0, (0, (0, (0, (0, (0, []))))))).1), zi (((t13.getD t15.toNat (0, (0, (0, (0, (0, (0, []))))))).2).1), zi ((((t13.getD t15.toNat (0, (0, (0, (0, (0, (0, []))))))).2).2).1), zi (((((t13.getD t15.toNat (0, (0, (0, (0, (0, (0, []))))))).2).2).2).1), zi ((((((t13.getD t15.toNat (0, (0, (0, (0, (0, (0, []))))))).2).2).2).2).1), zi (((((((t13.getD t15.toNat (0, (0, (0, (0, (0, (0, []))))))).2).2).2).2).2).1), .d (.sl (.int .u8) (((((((t13.getD t15.toNat (0, (0, (0, (0, (0, (0, []))))))).2).2).2).2).2).2))]), (1, [zi ((b.getD t15.toNat (0, (0, (0, (0, (0, (0, []))))))).1), zi (((b.getD t15.toNat (0, (0, (0, (0, (0, (0, []))))))).2).1), zi ((((b.getD t15.toNat (0, (0, (0, (0, (0, (0, []))))))).2).2).1), zi (((((b.getD t15.toNat (0, (0, (0, (0, (0, (0, []))))))).2).2).2).1), zi ((((((b.getD t15.toNat (0, (0, (0, (0, (0, (0, []))))))).2).2).2).2).1), zi (((((((b.getD t15.toNat (0, (0, (0, (0, (0, (0, []))))))).2).2).2).2).2).1), .d (.sl (.int .u8) (((((((b.getD t15.toNat (0, (0, (0, (0, (0, (0, []))))))).2).2).2).2).2).2))])], 2⟩ [(0 : Int) ≤ t15 ∧ t15 < (((b).length : Nat) : Int), 0 + 7 ≤ 7] (by kernel_rfl) ⟨g361_0, (by decide), trivial⟩ ?_
      rcases iteS h with ⟨b362_5, h⟩ | ⟨b362_5, h⟩
      · refine At.step hm ht ⟨[(5, .b true)], [true], [], [], []⟩ 8 ⟨[], [], [], 0⟩ [((((t13.getD t15.toNat (0, (0, (0, (0, (0, (0, []))))))).1) : Int) != ((b.getD t15.toNat (0, (0, (0, (0, (0, (0, []))))))).1)) = true, true = true] (by kernel_rfl) ⟨b362_5, rfl, trivial⟩ ?_
        have h := Option.some.inj h
        subst h
        have hk : o = f42_script_Same_out false := hk
        subst hk
        exact At.fin hm ht ⟨[], [], [], [4], []⟩ [] (by kernel_rfl) trivial
      · rcases iteS h with ⟨b362_12, h⟩ | ⟨b362_12, h⟩
        · refine At.step hm ht ⟨[(5, .b false), (12, .b true)], [true], [], [], []⟩ 8 ⟨[], [], [], 0⟩ [((((t13.getD t15.toNat (0, (0, (0, (0, (0, (0, []))))))).1) : Int) != ((b.getD t15.toNat (0, (0, (0, (0, (0, (0, []))))))).1)) = false, (((((t13.getD t15.toNat (0, (0, (0, (0, (0, (0, []))))))).2).1) : Int) != (((b.getD t15.toNat (0, (0, (0, (0, (0, (0, []))))))).2).1)) = true, true = true] (by kernel_rfl) ⟨b362_5, b362_12, rfl, trivial⟩ ?_
          have h := Option.some.inj h
          subst h
          have hk : o = f42_script_Same_out false := hk
          subst hk
          exact At.fin hm ht ⟨[], [], [], [4], []⟩ [] (by kernel_rfl) trivial
        · rcases iteS h with ⟨b362_19, h⟩ | ⟨b362_19, h⟩
          · refine At.step hm ht ⟨[(5, .b false), (12, .b false), (19, .b true)], [true], [], [], []⟩ 8 ⟨[], [], [], 0⟩ [((((t13.getD t15.toNat (0, (0, (0, (0, (0, (0, []))))))).1) : Int) != ((b.getD t15.toNat (0, (0, (0, (0, (0, (0, []))))))).1)) = false, (((((t13.getD t15.toNat (0, (0, (0, (0, (0, (0, []))))))).2).1) : Int) != (((b.getD t15.toNat (0, (0, (0, (0, (0, (0, []))))))).2).1)) = false, ((((((t13.getD t15.toNat (0, (0, (0, (0, (0, (0, []))))))).2).2).1) : Int) != ((((b.getD t15.toNat (0, (0, (0, (0, (0, (0, []))))))).2).2).1)) = true, true = true] (by kernel_rfl) ⟨b362_5, b362_12, b362_19, rfl, trivial⟩ ?_
            have h := Option.some.inj h
            subst h
            have hk : o = f42_script_Same_out false := hk
            subst hk
            exact At.fin hm ht ⟨[], [], [], [4], []⟩ [] (by kernel_rfl) trivial
          · rcases iteS h with ⟨b362_26, h⟩ | ⟨b362_26, h⟩
            · refine At.step hm ht ⟨[(5, .b false), (12, .b false), (19, .b false), (26, .b true)], [true], [], [], []⟩ 8 ⟨[], [], [], 0⟩ [((((t13.getD t15.toNat (0, (0, (0, (0, (0, (0, []))))))).1) : Int) != ((b.getD t15.toNat (0, (0, (0, (0, (0, (0, []))))))).1)) = false, (((((t13.getD t15.toNat (0, (0, (0, (0, (0, (0, []))))))).2).1) : Int) != (((b.getD t15.toNat (0, (0, (0, (0, (0, (0, []))))))).2).1)) = false, ((((((t13.getD t15.toNat (0, (0, (0, (0, (0, (0, []))))))).2).2).1) : Int) != ((((b.getD t15.toNat (0, (0, (0, (0, (0, (0, []))))))).2).2).1)) = false, (((((((t13.getD t15.toNat (0, (0, (0, (0, (0, (0, []))))))).2).2).2).1) : Int) != (((((b.getD t15.toNat (0, (0, (0, (0, (0, (0, []))))))).2).2).2).1)) = true, true = true] (by kernel_rfl) ⟨b362_5, b362_12, b362_19, b362_26, rfl, trivial⟩ ?_
              have h := Option.some.inj h
              subst h
              have hk : o = f42_script_Same_out false := hk
              subst hk
              exact At.fin hm ht ⟨[], [], [], [4], []⟩ [] (by kernel_rfl) trivial
            · rcases iteS h with ⟨b362_33, h⟩ | ⟨b362_33, h⟩
              · refine At.step hm ht ⟨[(5, .b false), (12, .b false), (19, .b false), (26, .b false), (33, .b true)], [true], [], [], []⟩ 8 ⟨[], [], [], 0⟩ [((((t13.getD t15.toNat (0, (0, (0, (0, (0, (0, []))))))).1) : Int) != ((b.getD t15.toNat (0, (0, (0, (0, (0, (0, []))))))).1)) = false, (((((t13.getD t15.toNat (0, (0, (0, (0, (0, (0, []))))))).2).1) : Int) != (((b.getD t15.toNat (0, (0, (0, (0, (0, (0, []))))))).2).1)) = false, ((((((t13.getD t15.toNat (0, (0, (0, (0, (0, (0, []))))))).2).2).1) : Int) != ((((b.getD t15.toNat (0, (0, (0, (0, (0, (0, []))))))).2).2).1)) = false, (((((((t13.getD t15.toNat (0, (0, (0, (0, (0, (0, []))))))).2).2).2).1) : Int) != (((((b.getD t15.toNat (0, (0, (0, (0, (0, (0, []))))))).2).2).2).1)) = false, ((((((((t13.getD t15.toNat (0, (0, (0, (0, (0, (0, []))))))).2).2).2).2).1) : Int) != ((((((b.getD t15.toNat (0, (0, (0, (0, (0, (0, []))))))).2).2).2).2).1)) = true, true = true] (by kernel_rfl) ⟨b362_5, b362_12, b362_19, b362_26, b362_33, rfl, trivial⟩ ?_
                have h := Option.some.inj h
                subst h
                have hk : o = f42_script_Same_out false := hk
                subst hk
                exact At.fin hm ht ⟨[], [], [], [4], []⟩ [] (by kernel_rfl) trivial
              · rcases iteS h with ⟨b362_40, h⟩ | ⟨b362_40, h⟩
                · refine At.step hm ht ⟨[(5, .b false), (12, .b false), (19, .b false), (26, .b false), (33, .b false), (40, .b true)], [true], [], [], []⟩ 8 ⟨[], [], [], 0⟩ [((((t13.getD t15.toNat (0, (0, (0, (0, (0, (0, []))))))).1) : Int) != ((b.getD t15.toNat (0, (0, (0, (0, (0, (0, []))))))).1)) = false, (((((t13.getD t15.toNat (0, (0, (0, (0, (0, (0, []))))))).2).1) : Int) != (((b.getD t15.toNat (0, (0, (0, (0, (0, (0, []))))))).2).1)) = false, ((((((t13.getD t15.toNat (0, (0, (0, (0, (0, (0, []))))))).2).2).1) : Int) != ((((b.getD t15.toNat (0, (0, (0, (0, (0, (0, []))))))).2).2).1)) = false, (((((((t13.getD t15.toNat (0, (0, (0, (0, (0, (0, []))))))).2).2).2).1) : Int) != (((((b.getD t15.toNat (0, (0, (0, (0, (0, (0, []))))))).2).2).2).1)) = false, ((((((((t13.getD t15.toNat (0, (0, (0, (0, (0, (0, []))))))).2).2).2).2).1) : Int) != ((((((b.getD t15.toNat (0, (0, (0, (0, (0, (0, []))))))).2).2).2).2).1)) = false, (((((((((t13.getD t15.toNat (0, (0, (0, (0, (0, (0, []))))))).2).2).2).2).2).1) : Int) != (((((((b.getD t15.toNat (0, (0, (0, (0, (0, (0, []))))))).2).2).2).2).2).1)) = true, true = true] (by kernel_rfl) ⟨b362_5, b362_12, b362_19, b362_26, b362_33, b362_40, rfl, trivial⟩ ?_
                  have h := Option.some.inj h
                  subst h
                  have hk : o = f42_script_Same_out false := hk
                  subst hk
                  exact At.fin hm ht ⟨[], [], [], [4], []⟩ [] (by kernel_rfl) trivial
                · rcases iteS h with ⟨b362_e0, h⟩ | ⟨b362_e0, h⟩
                  · refine At.step hm ht ⟨[(5, .b false), (12, .b false), (19, .b false), (26, .b false), (33, .b false), (40, .b false)], [true], [], [], []⟩ 8 ⟨[], [], [], 0⟩ [((((t13.getD t15.toNat (0, (0, (0, (0, (0, (0, []))))))).1) : Int) != ((b.getD t15.toNat (0, (0, (0, (0, (0, (0, []))))))).1)) = false, (((((t13.getD t15.toNat (0, (0, (0, (0, (0, (0, []))))))).2).1) : Int) != (((b.getD t15.toNat (0, (0, (0, (0, (0, (0, []))))))).2).1)) = false, ((((((t13.getD t15.toNat (0, (0, (0, (0, (0, (0, []))))))).2).2).1) : Int) != ((((b.getD t15.toNat (0, (0, (0, (0, (0, (0, []))))))).2).2).1)) = false, (((((((t13.getD t15.toNat (0, (0, (0, (0, (0, (0, []))))))).2).2).2).1) : Int) != (((((b.getD t15.toNat (0, (0, (0, (0, (0, (0, []))))))).2).2).2).1)) = false, ((((((((t13.getD t15.toNat (0, (0, (0, (0, (0, (0, []))))))).2).2).2).2).1) : Int) != ((((((b.getD t15.toNat (0, (0, (0, (0, (0, (0, []))))))).2).2).2).2).1)) = false, (((((((((t13.getD t15.toNat (0, (0, (0, (0, (0, (0, []))))))).2).2).2).2).2).1) : Int) != (((((((b.getD t15.toNat (0, (0, (0, (0, (0, (0, []))))))).2).2).2).2).2).1)) = false, (!((strOfNums (((((((t13.getD t15.toNat (0, (0, (0, (0, (0, (0, []))))))).2).2).2).2).2).2)).toList == (strOfNums (((((((b.getD t15.toNat (0, (0, (0, (0, (0, (0, []))))))).2).2).2).2).2).2)).toList)) = true] (by kernel_rfl) ⟨b362_5, b362_12, b362_19, b362_26, b362_33, b362_40, b362_e0, trivial⟩ ?_
                    have h := Option.some.inj h
                    subst h
                    have hk : o = f42_script_Same_out false := hk
                    subst hk
                    exact At.fin hm ht ⟨[], [], [], [4], []⟩ [] (by kernel_rfl) trivial
                  · refine At.step hm ht ⟨[(5, .b false), (12, .b false), (19, .b false), (26, .b false), (33, .b false), (40, .b false)], [false], [], [1, 13, 14, 15], []⟩ 9 ⟨[(1, oc (.d (.sl (.pair (.int .i64) (.pair (.int .i64) (.pair (.int .i64) (.pair (.int .i64) (.pair (.int .i64) (.pair (.int .i64) (.slice (.int .u8)))))))) b))), (13, oc (.d (.sl (.pair (.int .i64) (.pair (.int .i64) (.pair (.int .i64) (.pair (.int .i64) (.pair (.int .i64) (.pair (.int .i64) (.slice (.int .u8)))))))) t13))), (14, oc (zi t14)), (15, oc (zi t15))], [], [], 0⟩ [((((t13.getD t15.toNat (0, (0, (0, (0, (0, (0, []))))))).1) : Int) != ((b.getD t15.toNat (0, (0, (0, (0, (0, (0, []))))))).1)) = false, (((((t13.getD t15.toNat (0, (0, (0, (0, (0, (0, []))))))).2).1) : Int) != (((b.getD t15.toNat (0, (0, (0, (0, (0, (0, []))))))).2).1)) = false, ((((((t13.getD t15.toNat (0, (0, (0, (0, (0, (0, []))))))).2).2).1) : Int) != ((((b.getD t15.toNat (0, (0, (0, (0, (0, (0, []))))))).2).2).1)) = false, (((((((t13.getD t15.toNat (0, (0, (0, (0, (0, (0, []))))))).2).2).2).1) : Int) != (((((b.getD t15.toNat (0, (0, (0, (0, (0, (0, []))))))).2).2).2).1)) = false, ((((((((t13.getD t15.toNat (0, (0, (0, (0, (0, (0, []))))))).2).2).2).2).1) : Int) != ((((((b.getD t15.toNat (0, (0, (0, (0, (0, (0, []))))))).2).2).2).2).1)) = false, (((((((((t13.getD t15.toNat (0, (0, (0, (0, (0, (0, []))))))).2).2).2).2).2).1) : Int) != (((((((b.getD t15.toNat (0, (0, (0, (0, (0, (0, []))))))).2).2).2).2).2).1)) = false, (!((strOfNums (((((((t13.getD t15.toNat (0, (0, (0, (0, (0, (0, []))))))).2).2).2).2).2).2)).toList == (strOfNums (((((((b.getD t15.toNat (0, (0, (0, (0, (0, (0, []))))))).2).2).2).2).2).2)).toList)) = false] (by kernel_rfl) ⟨b362_5, b362_12, b362_19, b362_26, b362_33, b362_40, b362_e0, trivial⟩ ?_
                    refine At.step hm ht ⟨[], [], [], [1, 13, 14, 15], []⟩ 4 ⟨[(1, oc (.d (.sl (.pair (.int .i64) (.pair (.int .i64) (.pair (.int .i64) (.pair (.int .i64) (.pair (.int .i64) (.pair (.int .i64) (.slice (.int .u8)))))))) b))), (13, oc (.d (.sl (.pair (.int .i64) (.pair (.int .i64) (.pair (.int .i64) (.pair (.int .i64) (.pair (.int .i64) (.pair (.int .i64) (.slice (.int .u8)))))))) t13))), (14, oc (zi t14)), (15, oc (zi (IntKind.wrap .i64 (t15 + 1))))], [], [], 0⟩ [] (by kernel_rfl) trivial ?_
                    exact ih b t13 t14 (IntKind.wrap .i64 (t15 + 1)) w h o hk
    · refine At.step hm ht ⟨[], [false], [], [], []⟩ 10 ⟨[], [], [], 0⟩ [(decide ((t15 : Int) < t14)) = false] (by kernel_rfl) ⟨b359_e0, trivial⟩ ?_
      have h := Option.some.inj h
      subst h
      exact hk
def f42_script_Same (n : Nat) (a : List (Int × Int × Int × Int × Int × Int × List Int)) (b : List (Int × Int × Int × Int × Int × Int × List Int)) : Option (Bool) :=
  if ((((a.length : Nat) : Int) : Int) != ((b.length : Nat) : Int)) = true then
    some false
  else
    (f42_script_Same_L4 n b a ((a.length : Nat) : Int) 0).bind fun w371 =>
    match w371 with
    | .inl e372 =>
      some e372
    | .inr e373 =>
      some true
theorem f42_script_Same_ok (n : Nat) (a : List (Int × Int × Int × Int × Int × Int × List Int)) (b : List (Int × Int × Int × Int × Int × Int × List Int)) (r : Bool) (h : f42_script_Same n a b = some r) : FnOK Tryd.prog 42 (f42_script_Same_in a b) (f42_script_Same_out r) := by
  unfold f42_script_Same at h
  refine At.fn (r := 0) Tryd.func42 rfl (by kernel_rfl) rfl rfl (by kernel_rfl) ?_
  show At Tryd.prog Tryd.f42 0 0 ⟨[(0, oc (.d (.sl (.pair (.int .i64) (.pair (.int .i64) (.pair (.int .i64) (.pair (.int .i64) (.pair (.int .i64) (.pair (.int .i64) (.slice (.int .u8)))))))) a))), (1, oc (.d (.sl (.pair (.int .i64) (.pair (.int .i64) (.pair (.int .i64) (.pair (.int .i64) (.pair (.int .i64) (.pair (.int .i64) (.slice (.int .u8)))))))) b)))], [], [], 0⟩ _
  refine At.step hm ht ⟨[], [], [], [0, 1], []⟩ 1 ⟨[(0, oc (.d (.sl (.pair (.int .i64) (.pair (.int .i64) (.pair (.int .i64) (.pair (.int .i64) (.pair (.int .i64) (.pair (.int .i64) (.slice (.int .u8)))))))) a))), (1, oc (.d (.sl (.pair (.int .i64) (.pair (.int .i64) (.pair (.int .i64) (.pair (.int .i64) (.pair (.int .i64) (.pair (.int .i64) (.slice (.int .u8)))))))) b)))], [], [], 0⟩ [] (by kernel_rfl) trivial ?_
  rcases iteS h with ⟨b356_e0, h⟩ | ⟨b356_e0, h⟩
  · refine At.step hm ht ⟨[], [true], [], [], []⟩ 2 ⟨[], [], [], 0⟩ [((((a.length : Nat) : Int) : Int) != ((b.length : Nat) : Int)) = true] (by kernel_rfl) ⟨b356_e0, trivial⟩ ?_
    have h := Option.some.inj h
    subst h
    exact At.fin hm ht ⟨[], [], [], [4], []⟩ [] (by kernel_rfl) trivial
  · refine At.step hm ht ⟨[], [false], [], [0, 1], []⟩ 3 ⟨[(0, oc (.d (.sl (.pair (.int .i64) (.pair (.int .i64) (.pair (.int .i64) (.pair (.int .i64) (.pair (.int .i64) (.pair (.int .i64) (.slice (.int .u8)))))))) a))), (1, oc (.d (.sl (.pair (.int .i64) (.pair (.int .i64) (.pair (.int .i64) (.pair (.int .i64) (.pair (.int .i64) (.pair (.int .i64) (.slice (.int .u8)))))))) b)))], [], [], 0⟩ [((((a.length : Nat) : Int) : Int) != ((b.length : Nat) : Int)) = false] (by kernel_rfl) ⟨b356_e0, trivial⟩ ?_
    refine At.step hm ht ⟨[], [], [], [1, 13, 14, 15], []⟩ 4 ⟨[(1, oc (.d (.sl (.pair (.int .i64) (.pair (.int .i64) (.pair (.int .i64) (.pair (.int .i64) (.pair (.int .i64) (.pair (.int .i64) (.slice (.int .u8)))))))) b))), (13, oc (.d (.sl (.pair (.int .i64) (.pair (.int .i64) (.pair (.int .i64) (.pair (.int .i64) (.pair (.int .i64) (.pair (.int .i64) (.slice (.int .u8)))))))) a))), (14, oc (zi ((a.length : Nat) : Int))), (15, oc (zi 0))], [], [], 0⟩ [] (by kernel_rfl) trivial ?_
    obtain ⟨w371, cw371, h⟩ := bindS h
    refine f42_script_Same_L4_ok n b a ((a.length : Nat) : Int) 0 w371 cw371 _ ?_
    rcases w371 with e372 | e373
    · have h := Option.some.inj h
      subst h
      rfl
    · show At Tryd.prog Tryd.f42 0 10 ⟨[], [], [], 0⟩ _
      have h := Option.some.inj h
      subst h
      exact At.fin hm ht ⟨[], [], [], [4], []⟩ [] (by kernel_rfl) trivial
/-! brougham/broughamlaw25.ScriptBack -/
def f10_broughamlaw25_ScriptBack_in (l : List (Int × Int × Int × Int × Int × Int × List Int)) (s : ByteArray) : Inn := ⟨[.c (.d (.sl (.pair (.int .i64) (.pair (.int .i64) (.pair (.int .i64) (.pair (.int .i64) (.pair (.int .i64) (.pair (.int .i64) (.slice (.int .u8)))))))) l)), .c (.d (.str s))], [], [], 0⟩
def f10_broughamlaw25_ScriptBack_out (r : Bool) : Out := ⟨oc (.d (.bool r)), [], [], 0⟩
def f10_broughamlaw25_ScriptBack (n : Nat) (l : List (Int × Int × Int × Int × Int × Int × List Int)) (s : ByteArray) : Option (Bool) :=
  (f39_broughamlaw25_great n l).bind fun r2_0 =>
  if r2_0 = true then
    some true
  else
    if (decide ((((s.size : Nat) : Int) : Int) > 70000)) = true then
      some true
    else
      (f40_script_Text n l).bind fun r17_0 =>
      (f11_script_Parse n r17_0.1).bind fun r18_0 =>
      if ((r17_0.2 : Int) == 0) = true then
        if ((r18_0.2.2 : Int) != 0) = true then
          some false
        else
          (f13_broughamref25_Same n l r18_0.1).bind fun r323_0 =>
          if (!r323_0) = true then
            some false
          else
            (f11_script_Parse n s).bind fun r345_0 =>
            if ((r345_0.2.2 : Int) != 0) = true then
              if ((((r345_0.1.length : Nat) : Int) : Int) == 0) = true then
                (f14_broughamlaw25_alive n).bind fun r347_0 =>
                some r347_0
              else
                some false
            else
              (f40_script_Text n r345_0.1).bind fun r352_0 =>
              (f11_script_Parse n r352_0.1).bind fun r353_0 =>
              if ((r352_0.2 : Int) == 230) = true then
                if (r352_0.1.toList == (⟨#[]⟩ : ByteArray).toList) = true then
                  (f14_broughamlaw25_alive n).bind fun r354_0 =>
                  some r354_0
                else
                  if ((r352_0.2 : Int) == 0) = true then
                    if ((r353_0.2.2 : Int) == 0) = true then
                      (f42_script_Same n r345_0.1 r353_0.1).bind fun r354_0 =>
                      if r354_0 = true then
                        (f14_broughamlaw25_alive n).bind fun r354_1 =>
                        some r354_1
                      else
                        some false
                    else
                      some false
                  else
                    some false
              else
                if ((r352_0.2 : Int) == 0) = true then
                  if ((r353_0.2.2 : Int) == 0) = true then
                    (f42_script_Same n r345_0.1 r353_0.1).bind fun r354_0 =>
                    if r354_0 = true then
                      (f14_broughamlaw25_alive n).bind fun r354_1 =>
                      some r354_1
                    else
                      some false
                  else
                    some false
                else
                  some false
      else
        (f11_script_Parse n s).bind fun r375_0 =>
        if ((r375_0.2.2 : Int) != 0) = true then
          if ((((r375_0.1.length : Nat) : Int) : Int) == 0) = true then
            (f14_broughamlaw25_alive n).bind fun r377_0 =>
            some r377_0
          else
            some false
        else
          (f40_script_Text n r375_0.1).bind fun r378_0 =>
          (f11_script_Parse n r378_0.1).bind fun r379_0 =>
          if ((r378_0.2 : Int) == 230) = true then
            if (r378_0.1.toList == (⟨#[]⟩ : ByteArray).toList) = true then
              (f14_broughamlaw25_alive n).bind fun r380_0 =>
              some r380_0
            else
              if ((r378_0.2 : Int) == 0) = true then
                if ((r379_0.2.2 : Int) == 0) = true then
                  (f42_script_Same n r375_0.1 r379_0.1).bind fun r380_0 =>
                  if r380_0 = true then
                    (f14_broughamlaw25_alive n).bind fun r380_1 =>
                    some r380_1
                  else
                    some false
                else
                  some false
              else
                some false
          else
            if ((r378_0.2 : Int) == 0) = true then
              if ((r379_0.2.2 : Int) == 0) = true then
                (f42_script_Same n r375_0.1 r379_0.1).bind fun r380_0 =>
                if r380_0 = true then
                  (f14_broughamlaw25_alive n).bind fun r380_1 =>
                  some r380_1
                else
                  some false
              else
                some false
            else
              some false
theorem f10_broughamlaw25_ScriptBack_ok (n : Nat) (l : List (Int × Int × Int × Int × Int × Int × List Int)) (s : ByteArray) (r : Bool) (h : f10_broughamlaw25_ScriptBack n l s = some r) : FnOK Tryd.prog 10 (f10_broughamlaw25_ScriptBack_in l s) (f10_broughamlaw25_ScriptBack_out r) := by
  unfold f10_broughamlaw25_ScriptBack at h
  refine At.fn (r := 0) Tryd.func10 rfl (by kernel_rfl) rfl rfl (by kernel_rfl) ?_
  show At Tryd.prog Tryd.f10 0 0 ⟨[(0, oc (.d (.sl (.pair (.int .i64) (.pair (.int .i64) (.pair (.int .i64) (.pair (.int .i64) (.pair (.int .i64) (.pair (.int .i64) (.slice (.int .u8)))))))) l))), (1, oc (.d (.str s)))], [], [], 0⟩ _
  refine At.step hm ht ⟨[], [], [], [0, 1], []⟩ 1 ⟨[(0, oc (.d (.sl (.pair (.int .i64) (.pair (.int .i64) (.pair (.int .i64) (.pair (.int .i64) (.pair (.int .i64) (.pair (.int .i64) (.slice (.int .u8)))))))) l))), (1, oc (.d (.str s)))], [], [], 0⟩ [] (by kernel_rfl) trivial ?_
  obtain ⟨r2_0, cr2_0, h⟩ := bindS h
  rcases iteS h with ⟨b2_2, h⟩ | ⟨b2_2, h⟩
  · refine At.step hm ht ⟨[(1, .call [] [] (f39_broughamlaw25_great_out r2_0)), (2, .b true)], [true], [], [], []⟩ 2 ⟨[], [], [], 0⟩ [FnOK Tryd.prog 39 (f39_broughamlaw25_great_in l) (f39_broughamlaw25_great_out r2_0), r2_0 = true, true = true] (by kernel_rfl) ⟨(f39_broughamlaw25_great_ok n l r2_0 cr2_0), b2_2, rfl, trivial⟩ ?_
    have h := Option.some.inj h
    subst h
    exact At.fin hm ht ⟨[], [], [], [4], []⟩ [] (by kernel_rfl) trivial
  · rcases iteS h with ⟨b2_e0, h⟩ | ⟨b2_e0, h⟩
    · refine At.step hm ht ⟨[(1, .call [] [] (f39_broughamlaw25_great_out r2_0)), (2, .b false)], [true], [], [], []⟩ 2 ⟨[], [], [], 0⟩ [FnOK Tryd.prog 39 (f39_broughamlaw25_great_in l) (f39_broughamlaw25_great_out r2_0), r2_0 = false, (decide ((((s.size : Nat) : Int) : Int) > 70000)) = true] (by kernel_rfl) ⟨(f39_broughamlaw25_great_ok n l r2_0 cr2_0), b2_2, b2_e0, trivial⟩ ?_
      have h := Option.some.inj h
      subst h
      exact At.fin hm ht ⟨[], [], [], [4], []⟩ [] (by kernel_rfl) trivial
    · refine At.step hm ht ⟨[(1, .call [] [] (f39_broughamlaw25_great_out r2_0)), (2, .b false)], [false], [], [0, 1], []⟩ 3 ⟨[(0, oc (.d (.sl (.pair (.int .i64) (.pair (.int .i64) (.pair (.int .i64) (.pair (.int .i64) (.pair (.int .i64) (.pair (.int .i64) (.slice (.int .u8)))))))) l))), (1, oc (.d (.str s)))], [], [], 0⟩ [FnOK Tryd.prog 39 (f39_broughamlaw25_great_in l) (f39_broughamlaw25_great_out r2_0), r2_0 = false, (decide ((((s.size : Nat) : Int) : Int) > 70000)) = false] (by kernel_rfl) ⟨(f39_broughamlaw25_great_ok n l r2_0 cr2_0), b2_2, b2_e0, trivial⟩ ?_
      obtain ⟨r17_0, cr17_0, h⟩ := bindS h
      refine At.step hm ht ⟨[(1, .call [] [] (f40_script_Text_out r17_0))], [], [], [0, 1, 5, 6], []⟩ 4 ⟨[(0, oc (.d (.sl (.pair (.int .i64) (.pair (.int .i64) (.pair (.int .i64) (.pair (.int .i64) (.pair (.int .i64) (.pair (.int .i64) (.slice (.int .u8)))))))) l))), (1, oc (.d (.str s))), (5, oc (.d (.str r17_0.1))), (6, oc (zi r17_0.2))], [], [], 0⟩ [FnOK Tryd.prog 40 (f40_script_Text_in l) (f40_script_Text_out r17_0)] (by kernel_rfl) ⟨(f40_script_Text_ok n l r17_0 cr17_0), trivial⟩ ?_
      obtain ⟨r18_0, cr18_0, h⟩ := bindS h
      refine At.step hm ht ⟨[(1, .call [] [] (f11_script_Parse_out r18_0))], [], [], [0, 1, 6, 7, 9], [1]⟩ 5 ⟨[(0, oc (.d (.sl (.pair (.int .i64) (.pair (.int .i64) (.pair (.int .i64) (.pair (.int .i64) (.pair (.int .i64) (.pair (.int .i64) (.slice (.int .u8)))))))) l))), (1, oc (.d (.str s))), (6, oc (zi r17_0.2)), (7, oc (.own 0 (.pair (.int .i64) (.pair (.int .i64) (.pair (.int .i64) (.pair (.int .i64) (.pair (.int .i64) (.pair (.int .i64) (.slice (.int .u8)))))))) r18_0.1)), (9, oc (zi r18_0.2.2))], [(0, some ⟨79, 0⟩)], [], 1⟩ [FnOK Tryd.prog 11 (f11_script_Parse_in r17_0.1) (f11_script_Parse_out r18_0)] (by kernel_rfl) ⟨(f11_script_Parse_ok n r17_0.1 r18_0 cr18_0), trivial⟩ ?_
      rcases iteS h with ⟨b323_2, h⟩ | ⟨b323_2, h⟩
      · rcases iteS h with ⟨b323_5, h⟩ | ⟨b323_5, h⟩
        · refine At.step hm ht ⟨[(2, .b true), (5, .b true)], [true], [], [], []⟩ 6 ⟨[], [], [], 0⟩ [((r17_0.2 : Int) == 0) = true, ((r18_0.2.2 : Int) != 0) = true, true = true] (by kernel_rfl) ⟨b323_2, b323_5, rfl, trivial⟩ ?_
          have h := Option.some.inj h
          subst h
          exact At.fin hm ht ⟨[], [], [], [4], []⟩ [] (by kernel_rfl) trivial
        · obtain ⟨r323_0, cr323_0, h⟩ := bindS h
          rcases iteS h with ⟨b323_e0, h⟩ | ⟨b323_e0, h⟩
          · refine At.step hm ht ⟨[(2, .b true), (5, .b false), (8, .call [] [] (f13_broughamref25_Same_out r323_0))], [true], [], [], []⟩ 6 ⟨[], [], [], 0⟩ [((r17_0.2 : Int) == 0) = true, ((r18_0.2.2 : Int) != 0) = false, FnOK Tryd.prog 13 (f13_broughamref25_Same_in l r18_0.1) (f13_broughamref25_Same_out r323_0), (!r323_0) = true] (by kernel_rfl) ⟨b323_2, b323_5, (f13_broughamref25_Same_ok n l r18_0.1 r323_0 cr323_0), b323_e0, trivial⟩ ?_
            have h := Option.some.inj h
            subst h
            exact At.fin hm ht ⟨[], [], [], [4], []⟩ [] (by kernel_rfl) trivial
          · refine At.step hm ht ⟨[(2, .b true), (5, .b false), (8, .call [] [] (f13_broughamref25_Same_out r323_0))], [false], [], [1], []⟩ 7 ⟨[(1, oc (.d (.str s)))], [], [], 0⟩ [((r17_0.2 : Int) == 0) = true, ((r18_0.2.2 : Int) != 0) = false, FnOK Tryd.prog 13 (f13_broughamref25_Same_in l r18_0.1) (f13_broughamref25_Same_out r323_0), (!r323_0) = false] (by kernel_rfl) ⟨b323_2, b323_5, (f13_broughamref25_Same_ok n l r18_0.1 r323_0 cr323_0), b323_e0, trivial⟩ ?_
            obtain ⟨r345_0, cr345_0, h⟩ := bindS h
            refine At.step hm ht ⟨[(1, .call [] [] (f11_script_Parse_out r345_0))], [], [], [10, 12], [1]⟩ 8 ⟨[(10, oc (.own 0 (.pair (.int .i64) (.pair (.int .i64) (.pair (.int .i64) (.pair (.int .i64) (.pair (.int .i64) (.pair (.int .i64) (.slice (.int .u8)))))))) r345_0.1)), (12, oc (zi r345_0.2.2))], [(0, some ⟨79, 0⟩)], [], 1⟩ [FnOK Tryd.prog 11 (f11_script_Parse_in s) (f11_script_Parse_out r345_0)] (by kernel_rfl) ⟨(f11_script_Parse_ok n s r345_0 cr345_0), trivial⟩ ?_
            rcases iteS h with ⟨b346_e0, h⟩ | ⟨b346_e0, h⟩
            · refine At.step hm ht ⟨[], [true], [], [10], [0]⟩ 9 ⟨[(10, oc (.own 0 (.pair (.int .i64) (.pair (.int .i64) (.pair (.int .i64) (.pair (.int .i64) (.pair (.int .i64) (.pair (.int .i64) (.slice (.int .u8)))))))) r345_0.1))], [(0, some ⟨79, 0⟩)], [], 1⟩ [((r345_0.2.2 : Int) != 0) = true] (by kernel_rfl) ⟨b346_e0, trivial⟩ ?_
              rcases iteS h with ⟨b347_3, h⟩ | ⟨b347_3, h⟩
              · obtain ⟨r347_0, cr347_0, h⟩ := bindS h
                have h := Option.some.inj h
                subst h
                exact At.fin hm ht ⟨[(3, .b true), (4, .call [] [] (f14_broughamlaw25_alive_out r347_0))], [], [], [4], []⟩ [((((r345_0.1.length : Nat) : Int) : Int) == 0) = true, FnOK Tryd.prog 14 (f14_broughamlaw25_alive_in) (f14_broughamlaw25_alive_out r347_0)] (by kernel_rfl) ⟨b347_3, (f14_broughamlaw25_alive_ok n r347_0 cr347_0), trivial⟩
              · have h := Option.some.inj h
                subst h
                exact At.fin hm ht ⟨[(3, .b false)], [], [], [4], []⟩ [((((r345_0.1.length : Nat) : Int) : Int) == 0) = false] (by kernel_rfl) ⟨b347_3, trivial⟩
            · refine At.step hm ht ⟨[], [false], [], [10], [0]⟩ 10 ⟨[(10, oc (.own 0 (.pair (.int .i64) (.pair (.int .i64) (.pair (.int .i64) (.pair (.int .i64) (.pair (.int .i64) (.pair (.int .i64) (.slice (.int .u8)))))))) r345_0.1))], [(0, some ⟨79, 0⟩)], [], 1⟩ [((r345_0.2.2 : Int) != 0) = false] (by kernel_rfl) ⟨b346_e0, trivial⟩ ?_
              obtain ⟨r352_0, cr352_0, h⟩ := bindS h
              refine At.step hm ht ⟨[(1, .call [] [] (f40_script_Text_out r352_0))], [], [], [10, 13, 14], [0]⟩ 11 ⟨[(10, oc (.own 0 (.pair (.int .i64) (.pair (.int .i64) (.pair (.int .i64) (.pair (.int .i64) (.pair (.int .i64) (.pair (.int .i64) (.slice (.int .u8)))))))) r345_0.1)), (13, oc (.d (.str r352_0.1))), (14, oc (zi r352_0.2))], [(0, some ⟨79, 0⟩)], [], 1⟩ [FnOK Tryd.prog 40 (f40_script_Text_in r345_0.1) (f40_script_Text_out r352_0)] (by kernel_rfl) ⟨(f40_script_Text_ok n r345_0.1 r352_0 cr352_0), trivial⟩ ?_
              obtain ⟨r353_0, cr353_0, h⟩ := bindS h
              refine At.step hm ht ⟨[(1, .call [] [] (f11_script_Parse_out r353_0))], [], [], [10, 13, 14, 15, 17], [0, 2]⟩ 12 ⟨[(10, oc (.own 0 (.pair (.int .i64) (.pair (.int .i64) (.pair (.int .i64) (.pair (.int .i64) (.pair (.int .i64) (.pair (.int .i64) (.slice (.int .u8)))))))) r345_0.1)), (13, oc (.d (.str r352_0.1))), (14, oc (zi r352_0.2)), (15, oc (.own 1 (.pair (.int .i64) (.pair (.int .i64) (.pair (.int .i64) (.pair (.int .i64) (.pair (.int .i64) (.pair (.int .i64) (.slice (.int .u8)))))))) r353_0.1)), (17, oc (zi r353_0.2.2))], [(0, some ⟨79, 0⟩), (1, some ⟨79, 0⟩)], [], 2⟩ [FnOK Tryd.prog 11 (f11_script_Parse_in r352_0.1) (f11_script_Parse_out r353_0)] (by kernel_rfl) ⟨(f11_script_Parse_ok n r352_0.1 r353_0 cr353_0), trivial⟩ ?_
              rcases iteS h with ⟨b354_2, h⟩ | ⟨b354_2, h⟩
              · rcases iteS h with ⟨b354_6, h⟩ | ⟨b354_6, h⟩
                · obtain ⟨r354_0, cr354_0, h⟩ := bindS h
                  have h := Option.some.inj h
                  subst h
                  exact At.fin hm ht ⟨[(2, .b true), (6, .b true), (20, .call [] [] (f14_broughamlaw25_alive_out r354_0))], [], [], [4], []⟩ [((r352_0.2 : Int) == 230) = true, (r352_0.1.toList == (⟨#[]⟩ : ByteArray).toList) = true, FnOK Tryd.prog 14 (f14_broughamlaw25_alive_in) (f14_broughamlaw25_alive_out r354_0)] (by kernel_rfl) ⟨b354_2, b354_6, (f14_broughamlaw25_alive_ok n r354_0 cr354_0), trivial⟩
                · rcases iteS h with ⟨b354_9, h⟩ | ⟨b354_9, h⟩
                  · rcases iteS h with ⟨b354_13, h⟩ | ⟨b354_13, h⟩
                    · obtain ⟨r354_0, cr354_0, h⟩ := bindS h
                      rcases iteS h with ⟨b354_19, h⟩ | ⟨b354_19, h⟩
                      · obtain ⟨r354_1, cr354_1, h⟩ := bindS h
                        have h := Option.some.inj h
                        subst h
                        exact At.fin hm ht ⟨[(2, .b true), (6, .b false), (9, .b true), (13, .b true), (16, .call [] [] (f42_script_Same_out r354_0)), (19, .b true), (20, .call [] [] (f14_broughamlaw25_alive_out r354_1))], [], [], [4], []⟩ [((r352_0.2 : Int) == 230) = true, (r352_0.1.toList == (⟨#[]⟩ : ByteArray).toList) = false, ((r352_0.2 : Int) == 0) = true, ((r353_0.2.2 : Int) == 0) = true, FnOK Tryd.prog 42 (f42_script_Same_in r345_0.1 r353_0.1) (f42_script_Same_out r354_0), r354_0 = true, FnOK Tryd.prog 14 (f14_broughamlaw25_alive_in) (f14_broughamlaw25_alive_out r354_1)] (by kernel_rfl) ⟨b354_2, b354_6, b354_9, b354_13, (f42_script_Same_ok n r345_0.1 r353_0.1 r354_0 cr354_0), b354_19, (f14_broughamlaw25_alive_ok n r354_1 cr354_1), trivial⟩
                      · have h := Option.some.inj h
                        subst h
                        exact At.fin hm ht ⟨[(2, .b true), (6, .b false), (9, .b true), (13, .b true), (16, .call [] [] (f42_script_Same_out r354_0)), (19, .b false)], [], [], [4], []⟩ [((r352_0.2 : Int) == 230) = true, (r352_0.1.toList == (⟨#[]⟩ : ByteArray).toList) = false, ((r352_0.2 : Int) == 0) = true, ((r353_0.2.2 : Int) == 0) = true, FnOK Tryd.prog 42 (f42_script_Same_in r345_0.1 r353_0.1) (f42_script_Same_out r354_0), r354_0 = false] (by kernel_rfl) ⟨b354_2, b354_6, b354_9, b354_13, (f42_script_Same_ok n r345_0.1 r353_0.1 r354_0 cr354_0), b354_19, trivial⟩
                    · have h := Option.some.inj h
                      subst h
                      exact At.fin hm ht ⟨[(2, .b true), (6, .b false), (9, .b true), (13, .b false)], [], [], [4], []⟩ [((r352_0.2 : Int) == 230) = true, (r352_0.1.toList == (⟨#[]⟩ : ByteArray).toList) = false, ((r352_0.2 : Int) == 0) = true, ((r353_0.2.2 : Int) == 0) = false] (by kernel_rfl) ⟨b354_2, b354_6, b354_9, b354_13, trivial⟩
                  · have h := Option.some.inj h
                    subst h
                    exact At.fin hm ht ⟨[(2, .b true), (6, .b false), (9, .b false)], [], [], [4], []⟩ [((r352_0.2 : Int) == 230) = true, (r352_0.1.toList == (⟨#[]⟩ : ByteArray).toList) = false, ((r352_0.2 : Int) == 0) = false] (by kernel_rfl) ⟨b354_2, b354_6, b354_9, trivial⟩
              · rcases iteS h with ⟨b354_9, h⟩ | ⟨b354_9, h⟩
                · rcases iteS h with ⟨b354_13, h⟩ | ⟨b354_13, h⟩
                  · obtain ⟨r354_0, cr354_0, h⟩ := bindS h
                    rcases iteS h with ⟨b354_19, h⟩ | ⟨b354_19, h⟩
                    · obtain ⟨r354_1, cr354_1, h⟩ := bindS h
                      have h := Option.some.inj h
                      subst h
                      exact At.fin hm ht ⟨[(2, .b false), (9, .b true), (13, .b true), (16, .call [] [] (f42_script_Same_out r354_0)), (19, .b true), (20, .call [] [] (f14_broughamlaw25_alive_out r354_1))], [], [], [4], []⟩ [((r352_0.2 : Int) == 230) = false, ((r352_0.2 : Int) == 0) = true, ((r353_0.2.2 : Int) == 0) = true, FnOK Tryd.prog 42 (f42_script_Same_in r345_0.1 r353_0.1) (f42_script_Same_out r354_0), r354_0 = true, FnOK Tryd.prog 14 (f14_broughamlaw25_alive_in) (f14_broughamlaw25_alive_out r354_1)] (by kernel_rfl) ⟨b354_2, b354_9, b354_13, (f42_script_Same_ok n r345_0.1 r353_0.1 r354_0 cr354_0), b354_19, (f14_broughamlaw25_alive_ok n r354_1 cr354_1), trivial⟩
                    · have h := Option.some.inj h
                      subst h
                      exact At.fin hm ht ⟨[(2, .b false), (9, .b true), (13, .b true), (16, .call [] [] (f42_script_Same_out r354_0)), (19, .b false)], [], [], [4], []⟩ [((r352_0.2 : Int) == 230) = false, ((r352_0.2 : Int) == 0) = true, ((r353_0.2.2 : Int) == 0) = true, FnOK Tryd.prog 42 (f42_script_Same_in r345_0.1 r353_0.1) (f42_script_Same_out r354_0), r354_0 = false] (by kernel_rfl) ⟨b354_2, b354_9, b354_13, (f42_script_Same_ok n r345_0.1 r353_0.1 r354_0 cr354_0), b354_19, trivial⟩
                  · have h := Option.some.inj h
                    subst h
                    exact At.fin hm ht ⟨[(2, .b false), (9, .b true), (13, .b false)], [], [], [4], []⟩ [((r352_0.2 : Int) == 230) = false, ((r352_0.2 : Int) == 0) = true, ((r353_0.2.2 : Int) == 0) = false] (by kernel_rfl) ⟨b354_2, b354_9, b354_13, trivial⟩
                · have h := Option.some.inj h
                  subst h
                  exact At.fin hm ht ⟨[(2, .b false), (9, .b false)], [], [], [4], []⟩ [((r352_0.2 : Int) == 230) = false, ((r352_0.2 : Int) == 0) = false] (by kernel_rfl) ⟨b354_2, b354_9, trivial⟩
      · refine At.step hm ht ⟨[(2, .b false)], [false], [], [1], []⟩ 7 ⟨[(1, oc (.d (.str s)))], [], [], 0⟩ [((r17_0.2 : Int) == 0) = false, false = false] (by kernel_rfl) ⟨b323_2, rfl, trivial⟩ ?_
        obtain ⟨r375_0, cr375_0, h⟩ := bindS h
        refine At.step hm ht ⟨[(1, .call [] [] (f11_script_Parse_out r375_0))], [], [], [10, 12], [1]⟩ 8 ⟨[(10, oc (.own 0 (.pair (.int .i64) (.pair (.int .i64) (.pair (.int .i64) (.pair (.int .i64) (.pair (.int .i64) (.pair (.int .i64) (.slice (.int .u8)))))))) r375_0.1)), (12, oc (zi r375_0.2.2))], [(0, some ⟨79, 0⟩)], [], 1⟩ [FnOK Tryd.prog 11 (f11_script_Parse_in s) (f11_script_Parse_out r375_0)] (by kernel_rfl) ⟨(f11_script_Parse_ok n s r375_0 cr375_0), trivial⟩ ?_
        rcases iteS h with ⟨b376_e0, h⟩ | ⟨b376_e0, h⟩
        · refine At.step hm ht ⟨[], [true], [], [10], [0]⟩ 9 ⟨[(10, oc (.own 0 (.pair (.int .i64) (.pair (.int .i64) (.pair (.int .i64) (.pair (.int .i64) (.pair (.int .i64) (.pair (.int .i64) (.slice (.int .u8)))))))) r375_0.1))], [(0, some ⟨79, 0⟩)], [], 1⟩ [((r375_0.2.2 : Int) != 0) = true] (by kernel_rfl) ⟨b376_e0, trivial⟩ ?_
          rcases iteS h with ⟨b377_3, h⟩ | ⟨b377_3, h⟩
          · obtain ⟨r377_0, cr377_0, h⟩ := bindS h
            have h := Option.some.inj h
            subst h
            exact At.fin hm ht ⟨[(3, .b true), (4, .call [] [] (f14_broughamlaw25_alive_out r377_0))], [], [], [4], []⟩ [((((r375_0.1.length : Nat) : Int) : Int) == 0) = true, FnOK Tryd.prog 14 (f14_broughamlaw25_alive_in) (f14_broughamlaw25_alive_out r377_0)] (by kernel_rfl) ⟨b377_3, (f14_broughamlaw25_alive_ok n r377_0 cr377_0), trivial⟩
          · have h := Option.some.inj h
            subst h
            exact At.fin hm ht ⟨[(3, .b false)], [], [], [4], []⟩ [((((r375_0.1.length : Nat) : Int) : Int) == 0) = false] (by kernel_rfl) ⟨b377_3, trivial⟩
        · refine At.step hm ht ⟨[], [false], [], [10], [0]⟩ 10 ⟨[(10, oc (.own 0 (.pair (.int .i64) (.pair (.int .i64) (.pair (.int .i64) (.pair (.int .i64) (.pair (.int .i64) (.pair (.int .i64) (.slice (.int .u8)))))))) r375_0.1))], [(0, some ⟨79, 0⟩)], [], 1⟩ [((r375_0.2.2 : Int) != 0) = false] (by kernel_rfl) ⟨b376_e0, trivial⟩ ?_
          obtain ⟨r378_0, cr378_0, h⟩ := bindS h
          refine At.step hm ht ⟨[(1, .call [] [] (f40_script_Text_out r378_0))], [], [], [10, 13, 14], [0]⟩ 11 ⟨[(10, oc (.own 0 (.pair (.int .i64) (.pair (.int .i64) (.pair (.int .i64) (.pair (.int .i64) (.pair (.int .i64) (.pair (.int .i64) (.slice (.int .u8)))))))) r375_0.1)), (13, oc (.d (.str r378_0.1))), (14, oc (zi r378_0.2))], [(0, some ⟨79, 0⟩)], [], 1⟩ [FnOK Tryd.prog 40 (f40_script_Text_in r375_0.1) (f40_script_Text_out r378_0)] (by kernel_rfl) ⟨(f40_script_Text_ok n r375_0.1 r378_0 cr378_0), trivial⟩ ?_
          obtain ⟨r379_0, cr379_0, h⟩ := bindS h
          refine At.step hm ht ⟨[(1, .call [] [] (f11_script_Parse_out r379_0))], [], [], [10, 13, 14, 15, 17], [0, 2]⟩ 12 ⟨[(10, oc (.own 0 (.pair (.int .i64) (.pair (.int .i64) (.pair (.int .i64) (.pair (.int .i64) (.pair (.int .i64) (.pair (.int .i64) (.slice (.int .u8)))))))) r375_0.1)), (13, oc (.d (.str r378_0.1))), (14, oc (zi r378_0.2)), (15, oc (.own 1 (.pair (.int .i64) (.pair (.int .i64) (.pair (.int .i64) (.pair (.int .i64) (.pair (.int .i64) (.pair (.int .i64) (.slice (.int .u8)))))))) r379_0.1)), (17, oc (zi r379_0.2.2))], [(0, some ⟨79, 0⟩), (1, some ⟨79, 0⟩)], [], 2⟩ [FnOK Tryd.prog 11 (f11_script_Parse_in r378_0.1) (f11_script_Parse_out r379_0)] (by kernel_rfl) ⟨(f11_script_Parse_ok n r378_0.1 r379_0 cr379_0), trivial⟩ ?_
          rcases iteS h with ⟨b380_2, h⟩ | ⟨b380_2, h⟩
          · rcases iteS h with ⟨b380_6, h⟩ | ⟨b380_6, h⟩
            · obtain ⟨r380_0, cr380_0, h⟩ := bindS h
              have h := Option.some.inj h
              subst h
              exact At.fin hm ht ⟨[(2, .b true), (6, .b true), (20, .call [] [] (f14_broughamlaw25_alive_out r380_0))], [], [], [4], []⟩ [((r378_0.2 : Int) == 230) = true, (r378_0.1.toList == (⟨#[]⟩ : ByteArray).toList) = true, FnOK Tryd.prog 14 (f14_broughamlaw25_alive_in) (f14_broughamlaw25_alive_out r380_0)] (by kernel_rfl) ⟨b380_2, b380_6, (f14_broughamlaw25_alive_ok n r380_0 cr380_0), trivial⟩
            · rcases iteS h with ⟨b380_9, h⟩ | ⟨b380_9, h⟩
              · rcases iteS h with ⟨b380_13, h⟩ | ⟨b380_13, h⟩
                · obtain ⟨r380_0, cr380_0, h⟩ := bindS h
                  rcases iteS h with ⟨b380_19, h⟩ | ⟨b380_19, h⟩
                  · obtain ⟨r380_1, cr380_1, h⟩ := bindS h
                    have h := Option.some.inj h
                    subst h
                    exact At.fin hm ht ⟨[(2, .b true), (6, .b false), (9, .b true), (13, .b true), (16, .call [] [] (f42_script_Same_out r380_0)), (19, .b true), (20, .call [] [] (f14_broughamlaw25_alive_out r380_1))], [], [], [4], []⟩ [((r378_0.2 : Int) == 230) = true, (r378_0.1.toList == (⟨#[]⟩ : ByteArray).toList) = false, ((r378_0.2 : Int) == 0) = true, ((r379_0.2.2 : Int) == 0) = true, FnOK Tryd.prog 42 (f42_script_Same_in r375_0.1 r379_0.1) (f42_script_Same_out r380_0), r380_0 = true, FnOK Tryd.prog 14 (f14_broughamlaw25_alive_in) (f14_broughamlaw25_alive_out r380_1)] (by kernel_rfl) ⟨b380_2, b380_6, b380_9, b380_13, (f42_script_Same_ok n r375_0.1 r379_0.1 r380_0 cr380_0), b380_19, (f14_broughamlaw25_alive_ok n r380_1 cr380_1), trivial⟩
                  · have h := Option.some.inj h
                    subst h
                    exact At.fin hm ht ⟨[(2, .b true), (6, .b false), (9, .b true), (13, .b true), (16, .call [] [] (f42_script_Same_out r380_0)), (19, .b false)], [], [], [4], []⟩ [((r378_0.2 : Int) == 230) = true, (r378_0.1.toList == (⟨#[]⟩ : ByteArray).toList) = false, ((r378_0.2 : Int) == 0) = true, ((r379_0.2.2 : Int) == 0) = true, FnOK Tryd.prog 42 (f42_script_Same_in r375_0.1 r379_0.1) (f42_script_Same_out r380_0), r380_0 = false] (by kernel_rfl) ⟨b380_2, b380_6, b380_9, b380_13, (f42_script_Same_ok n r375_0.1 r379_0.1 r380_0 cr380_0), b380_19, trivial⟩
                · have h := Option.some.inj h
                  subst h
                  exact At.fin hm ht ⟨[(2, .b true), (6, .b false), (9, .b true), (13, .b false)], [], [], [4], []⟩ [((r378_0.2 : Int) == 230) = true, (r378_0.1.toList == (⟨#[]⟩ : ByteArray).toList) = false, ((r378_0.2 : Int) == 0) = true, ((r379_0.2.2 : Int) == 0) = false] (by kernel_rfl) ⟨b380_2, b380_6, b380_9, b380_13, trivial⟩
              · have h := Option.some.inj h
                subst h
                exact At.fin hm ht ⟨[(2, .b true), (6, .b false), (9, .b false)], [], [], [4], []⟩ [((r378_0.2 : Int) == 230) = true, (r378_0.1.toList == (⟨#[]⟩ : ByteArray).toList) = false, ((r378_0.2 : Int) == 0) = false] (by kernel_rfl) ⟨b380_2, b380_6, b380_9, trivial⟩
          · rcases iteS h with ⟨b380_9, h⟩ | ⟨b380_9, h⟩
            · rcases iteS h with ⟨b380_13, h⟩ | ⟨b380_13, h⟩
              · obtain ⟨r380_0, cr380_0, h⟩ := bindS h
                rcases iteS h with ⟨b380_19, h⟩ | ⟨b380_19, h⟩
                · obtain ⟨r380_1, cr380_1, h⟩ := bindS h
                  have h := Option.some.inj h
                  subst h
                  exact At.fin hm ht ⟨[(2, .b false), (9, .b true), (13, .b true), (16, .call [] [] (f42_script_Same_out r380_0)), (19, .b true), (20, .call [] [] (f14_broughamlaw25_alive_out r380_1))], [], [], [4], []⟩ [((r378_0.2 : Int) == 230) = false, ((r378_0.2 : Int) == 0) = true, ((r379_0.2.2 : Int) == 0) = true, FnOK Tryd.prog 42 (f42_script_Same_in r375_0.1 r379_0.1) (f42_script_Same_out r380_0), r380_0 = true, FnOK Tryd.prog 14 (f14_broughamlaw25_alive_in) (f14_broughamlaw25_alive_out r380_1)] (by kernel_rfl) ⟨b380_2, b380_9, b380_13, (f42_script_Same_ok n r375_0.1 r379_0.1 r380_0 cr380_0), b380_19, (f14_broughamlaw25_alive_ok n r380_1 cr380_1), trivial⟩
                · have h := Option.some.inj h
                  subst h
                  exact At.fin hm ht ⟨[(2, .b false), (9, .b true), (13, .b true), (16, .call [] [] (f42_script_Same_out r380_0)), (19, .b false)], [], [], [4], []⟩ [((r378_0.2 : Int) == 230) = false, ((r378_0.2 : Int) == 0) = true, ((r379_0.2.2 : Int) == 0) = true, FnOK Tryd.prog 42 (f42_script_Same_in r375_0.1 r379_0.1) (f42_script_Same_out r380_0), r380_0 = false] (by kernel_rfl) ⟨b380_2, b380_9, b380_13, (f42_script_Same_ok n r375_0.1 r379_0.1 r380_0 cr380_0), b380_19, trivial⟩
              · have h := Option.some.inj h
                subst h
                exact At.fin hm ht ⟨[(2, .b false), (9, .b true), (13, .b false)], [], [], [4], []⟩ [((r378_0.2 : Int) == 230) = false, ((r378_0.2 : Int) == 0) = true, ((r379_0.2.2 : Int) == 0) = false] (by kernel_rfl) ⟨b380_2, b380_9, b380_13, trivial⟩
            · have h := Option.some.inj h
              subst h
              exact At.fin hm ht ⟨[(2, .b false), (9, .b false)], [], [], [4], []⟩ [((r378_0.2 : Int) == 230) = false, ((r378_0.2 : Int) == 0) = false] (by kernel_rfl) ⟨b380_2, b380_9, trivial⟩
end Go.Proofs.YtakamchmiakicaaDoorF25b
