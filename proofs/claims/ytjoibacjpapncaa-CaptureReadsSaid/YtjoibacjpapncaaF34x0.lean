/- What the functions compute, and that they do: printed by a program of this session (zgen.py), proved by Zed. -/
import Derived.Test.YtjoibacjpapncaaProg
import Derived.Test.YtjoibacjpapncaaZedY
namespace Go.Proofs.YtjoibacjpapncaaF34
open Go Zed
set_option maxRecDepth 100000
set_option linter.unusedVariables false
def tab : Tab := [(3, ⟨.int .i64, 1, 8, [.int .i64 0], some (.int .i64), none⟩), (4, ⟨.bool, 1, 1, [.bool false], some .bool, none⟩), (5, ⟨.int .u8, 1, 1, [.int .u8 0], some (.int .u8), none⟩), (9, ⟨.str, 1, 16, [.str (⟨#[]⟩ : ByteArray)], some .str, none⟩), (22, ⟨.int .u64, 1, 8, [.int .u64 0], some (.int .u64), none⟩), (25, ⟨.int .u16, 1, 2, [.int .u16 0], some (.int .u16), none⟩), (26, ⟨.int .u32, 1, 4, [.int .u32 0], some (.int .u32), none⟩), (37, ⟨.slice 82, 1, 24, [.sl .unit []], some (.slice (.pair (.int .i64) (.pair (.int .i64) (.pair (.int .i64) (.slice (.int .u8)))))), none⟩), (38, ⟨.slice 5, 1, 24, [.sl .unit []], some (.slice (.int .u8)), none⟩), (43, ⟨.slice 84, 1, 24, [.sl .unit []], some (.slice (.pair (.int .i64) (.pair (.int .i64) (.pair (.int .i64) .str)))), none⟩), (79, ⟨.struct [(0, 3), (1, 3)], 2, 16, [.int .i64 0, .int .i64 0], some (.pair (.int .i64) (.int .i64)), some [(0, 3), (1, 3)]⟩), (82, ⟨.struct [(0, 3), (1, 3), (2, 3), (3, 38)], 4, 48, [.int .i64 0, .int .i64 0, .int .i64 0, .sl .unit []], some (.pair (.int .i64) (.pair (.int .i64) (.pair (.int .i64) (.slice (.int .u8))))), some [(0, 3), (1, 3), (2, 3), (3, 38)]⟩), (84, ⟨.struct [(0, 3), (1, 3), (2, 3), (3, 9)], 4, 40, [.int .i64 0, .int .i64 0, .int .i64 0, .str (⟨#[]⟩ : ByteArray)], some (.pair (.int .i64) (.pair (.int .i64) (.pair (.int .i64) .str))), some [(0, 3), (1, 3), (2, 3), (3, 9)]⟩), (110, ⟨.slice 3, 1, 24, [.sl .unit []], some (.slice (.int .i64)), none⟩), (139, ⟨.struct [(0, 3), (1, 22)], 2, 16, [.int .i64 0, .int .u64 0], some (.pair (.int .i64) (.int .u64)), some [(0, 3), (1, 22)]⟩), (144, ⟨.slice 22, 1, 24, [.sl .unit []], some (.slice (.int .u64)), none⟩), (221, ⟨.slice 139, 1, 24, [.sl .unit []], some (.slice (.pair (.int .i64) (.int .u64))), none⟩)]
theorem ht : TabOk Go.Proofs.Try.prog tab := tabOk_of (ts := [3, 4, 5, 9, 22, 25, 26, 37, 38, 43, 79, 82, 84, 110, 139, 144, 221]) (by kernel_rfl)
theorem hm : Go.Proofs.Try.prog.follows .mixedOrders = true := by kernel_rfl
/-! brougham/broughamlaw34.great -/
def f19_broughamlaw34_great_in (l : List (Int × Int × Int × List Int)) : Inn := ⟨[.c (.d (.sl (.pair (.int .i64) (.pair (.int .i64) (.pair (.int .i64) (.slice (.int .u8))))) l))], [], [], 0⟩
def f19_broughamlaw34_great_out (r : Bool) : Out := ⟨.one (.c (.d (.bool r))), [], [], 0⟩
def f19_broughamlaw34_great_L3 : Nat → (List (Int × Int × Int × List Int)) → Int → Int → Option ((Bool) ⊕ (List (Int × Int × Int × List Int)))
  | 0, _, _, _ => none
  | n + 1, l, n_, i =>
    if (decide ((i : Int) < ((l.length : Nat) : Int))) = true then
      if (decide ((i : Int) < 1100)) = true then
        if (0 : Int) ≤ i ∧ i < (((l).length : Nat) : Int) then
        if (decide (((IntKind.wrap .i64 (n_ + ((((((l.getD i.toNat (0, (0, (0, [])))).2).2).2).length : Nat) : Int))) : Int) > 20000)) = true then
          some (.inl true)
        else
          f19_broughamlaw34_great_L3 n l (IntKind.wrap .i64 (n_ + ((((((l.getD i.toNat (0, (0, (0, [])))).2).2).2).length : Nat) : Int))) (IntKind.wrap .i64 (i + 1))
        else none
      else
        some (.inr l)
    else
      some (.inr l)
def f19_broughamlaw34_great_L3_k (w : (Bool) ⊕ (List (Int × Int × Int × List Int))) (o : Out) : Prop := match w with
  | .inl e => o = f19_broughamlaw34_great_out e
  | .inr e => At Go.Proofs.Try.prog Go.Proofs.Try.f19 0 8 ⟨[(0, .one (.c (.d (.sl (.pair (.int .i64) (.pair (.int .i64) (.pair (.int .i64) (.slice (.int .u8))))) e))))], [], [], 0⟩ o
theorem f19_broughamlaw34_great_L3_ok (n : Nat) : ∀ (l : List (Int × Int × Int × List Int)) (n_ : Int) (i : Int) (w : (Bool) ⊕ (List (Int × Int × Int × List Int))) (h : f19_broughamlaw34_great_L3 n l n_ i = some w) (o : Out) (hk : f19_broughamlaw34_great_L3_k w o), At Go.Proofs.Try.prog Go.Proofs.Try.f19 0 3 ⟨[(0, .one (.c (.d (.sl (.pair (.int .i64) (.pair (.int .i64) (.pair (.int .i64) (.slice (.int .u8))))) l)))), (3, .one (.c (.d (.int .i64 n_)))), (4, .one (.c (.d (.int .i64 i))))], [], [], 0⟩ o := by
  induction n with
  | zero => intro l n_ i w h; rw [f19_broughamlaw34_great_L3] at h; cases h
  | succ n ih =>
    intro l n_ i w h o hk
    rw [f19_broughamlaw34_great_L3] at h
    rcases iteS h with ⟨b6_4, h⟩ | ⟨b6_4, h⟩
    · rcases iteS h with ⟨b6_e0, h⟩ | ⟨b6_e0, h⟩
      · refine At.step hm ht ⟨[(4, .b true)], [true], [], [0, 3, 4], []⟩ 5 ⟨[(0, .one (.c (.d (.sl (.pair (.int .i64) (.pair (.int .i64) (.pair (.int .i64) (.slice (.int .u8))))) l)))), (3, .one (.c (.d (.int .i64 n_)))), (4, .one (.c (.d (.int .i64 i))))], [], [], 0⟩ [(decide ((i : Int) < ((l.length : Nat) : Int))) = true, (decide ((i : Int) < 1100)) = true] (by kernel_rfl) ⟨b6_4, b6_e0, trivial⟩ ?_
        obtain ⟨g7_0, h⟩ := ifS h
        refine At.step hm ht ⟨[], [], [], [0, 3, 4], []⟩ 6 ⟨[(0, .one (.c (.d (.sl (.pair (.int .i64) (.pair (.int .i64) (.pair (.int .i64) (.slice (.int .u8))))) l)))), (3, .one (.c (.d (.int .i64 (IntKind.wrap .i64 (n_ + ((((((l.getD i.toNat (0, (0, (0, [])))).2).2).2).length : Nat) : Int))))))), (4, .one (.c (.d (.int .i64 i))))], [], [], 0⟩ [(0 : Int) ≤ i ∧ i < (((l).length : Nat) : Int)] (by kernel_rfl) ⟨g7_0, trivial⟩ ?_
        rcases iteS h with ⟨b8_e0, h⟩ | ⟨b8_e0, h⟩
        · refine At.step hm ht ⟨[], [true], [], [], []⟩ 7 ⟨[], [], [], 0⟩ [(decide (((IntKind.wrap .i64 (n_ + ((((((l.getD i.toNat (0, (0, (0, [])))).2).2).2).length : Nat) : Int))) : Int) > 20000)) = true] (by kernel_rfl) ⟨b8_e0, trivial⟩ ?_
          have h := Option.some.inj h
          subst h
          have hk : o = f19_broughamlaw34_great_out true := hk
          subst hk
          exact At.fin hm ht ⟨[], [], [], [2], []⟩ [] (by kernel_rfl) trivial
        · refine At.step hm ht ⟨[], [false], [], [0, 3, 4], []⟩ 4 ⟨[(0, .one (.c (.d (.sl (.pair (.int .i64) (.pair (.int .i64) (.pair (.int .i64) (.slice (.int .u8))))) l)))), (3, .one (.c (.d (.int .i64 (IntKind.wrap .i64 (n_ + ((((((l.getD i.toNat (0, (0, (0, [])))).2).2).2).length : Nat) : Int))))))), (4, .one (.c (.d (.int .i64 i))))], [], [], 0⟩ [(decide (((IntKind.wrap .i64 (n_ + ((((((l.getD i.toNat (0, (0, (0, [])))).2).2).2).length : Nat) : Int))) : Int) > 20000)) = false] (by kernel_rfl) ⟨b8_e0, trivial⟩ ?_
          refine At.step hm ht ⟨[], [], [], [0, 3, 4], []⟩ 3 ⟨[(0, .one (.c (.d (.sl (.pair (.int .i64) (.pair (.int .i64) (.pair (.int .i64) (.slice (.int .u8))))) l)))), (3, .one (.c (.d (.int .i64 (IntKind.wrap .i64 (n_ + ((((((l.getD i.toNat (0, (0, (0, [])))).2).2).2).length : Nat) : Int))))))), (4, .one (.c (.d (.int .i64 (IntKind.wrap .i64 (i + 1))))))], [], [], 0⟩ [] (by kernel_rfl) trivial ?_
          exact ih l (IntKind.wrap .i64 (n_ + ((((((l.getD i.toNat (0, (0, (0, [])))).2).2).2).length : Nat) : Int))) (IntKind.wrap .i64 (i + 1)) w h o hk
      · refine At.step hm ht ⟨[(4, .b true)], [false], [], [0], []⟩ 8 ⟨[(0, .one (.c (.d (.sl (.pair (.int .i64) (.pair (.int .i64) (.pair (.int .i64) (.slice (.int .u8))))) l))))], [], [], 0⟩ [(decide ((i : Int) < ((l.length : Nat) : Int))) = true, (decide ((i : Int) < 1100)) = false] (by kernel_rfl) ⟨b6_4, b6_e0, trivial⟩ ?_
        have h := Option.some.inj h
        subst h
        exact hk
    · refine At.step hm ht ⟨[(4, .b false)], [false], [], [0], []⟩ 8 ⟨[(0, .one (.c (.d (.sl (.pair (.int .i64) (.pair (.int .i64) (.pair (.int .i64) (.slice (.int .u8))))) l))))], [], [], 0⟩ [(decide ((i : Int) < ((l.length : Nat) : Int))) = false, false = false] (by kernel_rfl) ⟨b6_4, rfl, trivial⟩ ?_
      have h := Option.some.inj h
      subst h
      exact hk
def f19_broughamlaw34_great (n : Nat) (l : List (Int × Int × Int × List Int)) : Option (Bool) :=
  (f19_broughamlaw34_great_L3 n l 0 0).bind fun w11 =>
  match w11 with
  | .inl e12 =>
    some e12
  | .inr e13 =>
    some (decide ((((e13.length : Nat) : Int) : Int) > 1100))
theorem f19_broughamlaw34_great_ok (n : Nat) (l : List (Int × Int × Int × List Int)) (r : Bool) (h : f19_broughamlaw34_great n l = some r) : FnOK Go.Proofs.Try.prog 19 (f19_broughamlaw34_great_in l) (f19_broughamlaw34_great_out r) := by
  unfold f19_broughamlaw34_great at h
  refine At.fn (r := 0) Go.Proofs.Try.func19 rfl (by kernel_rfl) rfl rfl (by kernel_rfl) ?_
  show At Go.Proofs.Try.prog Go.Proofs.Try.f19 0 0 ⟨[(0, .one (.c (.d (.sl (.pair (.int .i64) (.pair (.int .i64) (.pair (.int .i64) (.slice (.int .u8))))) l))))], [], [], 0⟩ _
  refine At.step hm ht ⟨[], [], [], [0], []⟩ 1 ⟨[(0, .one (.c (.d (.sl (.pair (.int .i64) (.pair (.int .i64) (.pair (.int .i64) (.slice (.int .u8))))) l))))], [], [], 0⟩ [] (by kernel_rfl) trivial ?_
  refine At.step hm ht ⟨[], [], [], [0, 3], []⟩ 2 ⟨[(0, .one (.c (.d (.sl (.pair (.int .i64) (.pair (.int .i64) (.pair (.int .i64) (.slice (.int .u8))))) l)))), (3, .one (.c (.d (.int .i64 0))))], [], [], 0⟩ [] (by kernel_rfl) trivial ?_
  refine At.step hm ht ⟨[], [], [], [0, 3, 4], []⟩ 3 ⟨[(0, .one (.c (.d (.sl (.pair (.int .i64) (.pair (.int .i64) (.pair (.int .i64) (.slice (.int .u8))))) l)))), (3, .one (.c (.d (.int .i64 0)))), (4, .one (.c (.d (.int .i64 0))))], [], [], 0⟩ [] (by kernel_rfl) trivial ?_
  obtain ⟨w11, cw11, h⟩ := bindS h
  refine f19_broughamlaw34_great_L3_ok n l 0 0 w11 cw11 _ ?_
  rcases w11 with e12 | e13
  · have h := Option.some.inj h
    subst h
    rfl
  · show At Go.Proofs.Try.prog Go.Proofs.Try.f19 0 8 ⟨[(0, .one (.c (.d (.sl (.pair (.int .i64) (.pair (.int .i64) (.pair (.int .i64) (.slice (.int .u8))))) e13))))], [], [], 0⟩ _
    have h := Option.some.inj h
    subst h
    exact At.fin hm ht ⟨[], [], [], [2], []⟩ [] (by kernel_rfl) trivial
/-! brougham/capture.copied -/
def f95_capture_copied_in (r__0 : Int) (r__1 : Int) (r__2 : Int) (r__3 : List Int) : Inn := ⟨[.agg [.d (.int .i64 r__0), .d (.int .i64 r__1), .d (.int .i64 r__2), .d (.sl (.int .u8) r__3)]], [], [], 0⟩
def f95_capture_copied_out (r : Int × Int × Int × List Int) : Out := ⟨.one (.agg [.d (.int .i64 r.1), .d (.int .i64 r.2.1), .d (.int .i64 r.2.2.1), .own 1 (.int .u8) r.2.2.2]), [(1, ⟨5, 0⟩)], [(0, [.d (.int .i64 r.1), .d (.int .i64 r.2.1), .d (.int .i64 r.2.2.1), .own 1 (.int .u8) r.2.2.2])], 2⟩
def f95_capture_copied (r__0 : Int) (r__1 : Int) (r__2 : Int) (r__3 : List Int) : Option (Int × Int × Int × List Int) :=
  if r__3.length ≤ maxLen ∧ r__3.length * 1 ≤ 140737488355328 then
  some (r__0, r__1, r__2, r__3)
  else none
theorem f95_capture_copied_ok (r__0 : Int) (r__1 : Int) (r__2 : Int) (r__3 : List Int) (r : Int × Int × Int × List Int) (h : f95_capture_copied r__0 r__1 r__2 r__3 = some r) : FnOK Go.Proofs.Try.prog 95 (f95_capture_copied_in r__0 r__1 r__2 r__3) (f95_capture_copied_out r) := by
  unfold f95_capture_copied at h
  refine At.fn (r := 0) Go.Proofs.Try.func95 rfl (by kernel_rfl) rfl rfl (by kernel_rfl) ?_
  show At Go.Proofs.Try.prog Go.Proofs.Try.f95 0 0 ⟨[(0, .one (.agg [.d (.int .i64 r__0), .d (.int .i64 r__1), .d (.int .i64 r__2), .d (.sl (.int .u8) r__3)]))], [], [], 0⟩ _
  refine At.step hm ht ⟨[], [], [], [1, 2], [0, 1]⟩ 1 ⟨[(1, .one (.c (.ptr 0 0))), (2, .one (.c (.ptr 1 0)))], [], [(0, [.d (.int .i64 r__0), .d (.int .i64 r__1), .d (.int .i64 r__2), .d (.sl (.int .u8) r__3)]), (1, [.d (.int .i64 0), .d (.int .i64 0), .d (.int .i64 0), .d (.sl .unit [])])], 2⟩ [] (by kernel_rfl) trivial ?_
  obtain ⟨g26_0, h⟩ := ifS h
  refine At.step hm ht ⟨[], [], [], [1, 2], [0, 1, 4]⟩ 2 ⟨[(1, .one (.c (.ptr 0 0))), (2, .one (.c (.ptr 1 0)))], [(2, some ⟨5, 0⟩)], [(0, [.d (.int .i64 r__0), .d (.int .i64 r__1), .d (.int .i64 r__2), .own 2 (.int .u8) r__3]), (1, [.d (.int .i64 0), .d (.int .i64 0), .d (.int .i64 0), .d (.sl .unit [])])], 3⟩ [r__3.length ≤ maxLen ∧ r__3.length * 1 ≤ 140737488355328, 3 + 1 ≤ 4] (by kernel_rfl) ⟨g26_0, (by decide), trivial⟩ ?_
  have h := Option.some.inj h
  subst h
  exact At.fin hm ht ⟨[], [], [], [2], [1, 2]⟩ [0 + 4 ≤ 4] (by kernel_rfl) ⟨(by decide), trivial⟩
/-! brougham/capture.Merge -/
def f42_capture_Merge_in (a : List (Int × Int × Int × List Int)) (b : List (Int × Int × Int × List Int)) : Inn := ⟨[.c (.d (.sl (.pair (.int .i64) (.pair (.int .i64) (.pair (.int .i64) (.slice (.int .u8))))) a)), .c (.d (.sl (.pair (.int .i64) (.pair (.int .i64) (.pair (.int .i64) (.slice (.int .u8))))) b))], [], [], 0⟩
def f42_capture_Merge_out (r : List (Int × Int × Int × List Int)) : Out := ⟨.one (.c (.own 0 (.pair (.int .i64) (.pair (.int .i64) (.pair (.int .i64) (.slice (.int .u8))))) r)), [(0, ⟨82, 0⟩)], [], 1⟩
def f42_capture_Merge_L2 : Nat → (List (Int × Int × Int × List Int)) → (List (Int × Int × Int × List Int)) → (List (Int × Int × Int × List Int)) → Option (List (Int × Int × Int × List Int))
  | 0, _, _, _ => none
  | n + 1, a, b, out =>
    if (decide ((((a.length : Nat) : Int) : Int) > 0)) = true then
      if ((((b.length : Nat) : Int) : Int) == 0) = true then
        if (0 : Int) ≤ 0 ∧ 0 < (((a).length : Nat) : Int) then
        (f95_capture_copied ((a.getD 0 (0, (0, (0, [])))).1) (((a.getD 0 (0, (0, (0, [])))).2).1) ((((a.getD 0 (0, (0, (0, [])))).2).2).1) ((((a.getD 0 (0, (0, (0, [])))).2).2).2)).bind fun r33_1 =>
        if out.length + [r33_1].length ≤ maxLen ∧ (out.length + [r33_1].length) * 48 ≤ 140737488355328 then
        if cutOk a.length (some 1) none none then
        f42_capture_Merge_L2 n ((a.take a.length).drop 1) b (out ++ [r33_1])
        else none
        else none
        else none
      else
        if (decide ((((a.length : Nat) : Int) : Int) > 0)) = true then
          if (0 : Int) ≤ 0 ∧ 0 < (((a).length : Nat) : Int) then
          if (0 : Int) ≤ 0 ∧ 0 < (((b).length : Nat) : Int) then
          if (decide ((((a.getD 0 (0, (0, (0, [])))).1) : Int) ≤ ((b.getD 0 (0, (0, (0, [])))).1))) = true then
            if (0 : Int) ≤ 0 ∧ 0 < (((a).length : Nat) : Int) then
            (f95_capture_copied ((a.getD 0 (0, (0, (0, [])))).1) (((a.getD 0 (0, (0, (0, [])))).2).1) ((((a.getD 0 (0, (0, (0, [])))).2).2).1) ((((a.getD 0 (0, (0, (0, [])))).2).2).2)).bind fun r35_1 =>
            if out.length + [r35_1].length ≤ maxLen ∧ (out.length + [r35_1].length) * 48 ≤ 140737488355328 then
            if cutOk a.length (some 1) none none then
            f42_capture_Merge_L2 n ((a.take a.length).drop 1) b (out ++ [r35_1])
            else none
            else none
            else none
          else
            if (0 : Int) ≤ 0 ∧ 0 < (((b).length : Nat) : Int) then
            (f95_capture_copied ((b.getD 0 (0, (0, (0, [])))).1) (((b.getD 0 (0, (0, (0, [])))).2).1) ((((b.getD 0 (0, (0, (0, [])))).2).2).1) ((((b.getD 0 (0, (0, (0, [])))).2).2).2)).bind fun r37_1 =>
            if out.length + [r37_1].length ≤ maxLen ∧ (out.length + [r37_1].length) * 48 ≤ 140737488355328 then
            if cutOk b.length (some 1) none none then
            f42_capture_Merge_L2 n a ((b.take b.length).drop 1) (out ++ [r37_1])
            else none
            else none
            else none
          else none
          else none
        else
          if (0 : Int) ≤ 0 ∧ 0 < (((b).length : Nat) : Int) then
          (f95_capture_copied ((b.getD 0 (0, (0, (0, [])))).1) (((b.getD 0 (0, (0, (0, [])))).2).1) ((((b.getD 0 (0, (0, (0, [])))).2).2).1) ((((b.getD 0 (0, (0, (0, [])))).2).2).2)).bind fun r39_1 =>
          if out.length + [r39_1].length ≤ maxLen ∧ (out.length + [r39_1].length) * 48 ≤ 140737488355328 then
          if cutOk b.length (some 1) none none then
          f42_capture_Merge_L2 n a ((b.take b.length).drop 1) (out ++ [r39_1])
          else none
          else none
          else none
    else
      if (decide ((((b.length : Nat) : Int) : Int) > 0)) = true then
        if ((((b.length : Nat) : Int) : Int) == 0) = true then
          if (0 : Int) ≤ 0 ∧ 0 < (((a).length : Nat) : Int) then
          (f95_capture_copied ((a.getD 0 (0, (0, (0, [])))).1) (((a.getD 0 (0, (0, (0, [])))).2).1) ((((a.getD 0 (0, (0, (0, [])))).2).2).1) ((((a.getD 0 (0, (0, (0, [])))).2).2).2)).bind fun r42_1 =>
          if out.length + [r42_1].length ≤ maxLen ∧ (out.length + [r42_1].length) * 48 ≤ 140737488355328 then
          if cutOk a.length (some 1) none none then
          f42_capture_Merge_L2 n ((a.take a.length).drop 1) b (out ++ [r42_1])
          else none
          else none
          else none
        else
          if (decide ((((a.length : Nat) : Int) : Int) > 0)) = true then
            if (0 : Int) ≤ 0 ∧ 0 < (((a).length : Nat) : Int) then
            if (0 : Int) ≤ 0 ∧ 0 < (((b).length : Nat) : Int) then
            if (decide ((((a.getD 0 (0, (0, (0, [])))).1) : Int) ≤ ((b.getD 0 (0, (0, (0, [])))).1))) = true then
              if (0 : Int) ≤ 0 ∧ 0 < (((a).length : Nat) : Int) then
              (f95_capture_copied ((a.getD 0 (0, (0, (0, [])))).1) (((a.getD 0 (0, (0, (0, [])))).2).1) ((((a.getD 0 (0, (0, (0, [])))).2).2).1) ((((a.getD 0 (0, (0, (0, [])))).2).2).2)).bind fun r44_1 =>
              if out.length + [r44_1].length ≤ maxLen ∧ (out.length + [r44_1].length) * 48 ≤ 140737488355328 then
              if cutOk a.length (some 1) none none then
              f42_capture_Merge_L2 n ((a.take a.length).drop 1) b (out ++ [r44_1])
              else none
              else none
              else none
            else
              if (0 : Int) ≤ 0 ∧ 0 < (((b).length : Nat) : Int) then
              (f95_capture_copied ((b.getD 0 (0, (0, (0, [])))).1) (((b.getD 0 (0, (0, (0, [])))).2).1) ((((b.getD 0 (0, (0, (0, [])))).2).2).1) ((((b.getD 0 (0, (0, (0, [])))).2).2).2)).bind fun r46_1 =>
              if out.length + [r46_1].length ≤ maxLen ∧ (out.length + [r46_1].length) * 48 ≤ 140737488355328 then
              if cutOk b.length (some 1) none none then
              f42_capture_Merge_L2 n a ((b.take b.length).drop 1) (out ++ [r46_1])
              else none
              else none
              else none
            else none
            else none
          else
            if (0 : Int) ≤ 0 ∧ 0 < (((b).length : Nat) : Int) then
            (f95_capture_copied ((b.getD 0 (0, (0, (0, [])))).1) (((b.getD 0 (0, (0, (0, [])))).2).1) ((((b.getD 0 (0, (0, (0, [])))).2).2).1) ((((b.getD 0 (0, (0, (0, [])))).2).2).2)).bind fun r48_1 =>
            if out.length + [r48_1].length ≤ maxLen ∧ (out.length + [r48_1].length) * 48 ≤ 140737488355328 then
            if cutOk b.length (some 1) none none then
            f42_capture_Merge_L2 n a ((b.take b.length).drop 1) (out ++ [r48_1])
            else none
            else none
            else none
      else
        some (out)
def f42_capture_Merge_L2_k (e : List (Int × Int × Int × List Int)) (o : Out) : Prop := At Go.Proofs.Try.prog Go.Proofs.Try.f42 0 8 ⟨[(5, .one (.c (.own 0 (.pair (.int .i64) (.pair (.int .i64) (.pair (.int .i64) (.slice (.int .u8))))) e)))], [(0, some ⟨82, 0⟩)], [], 1⟩ o
theorem f42_capture_Merge_L2_ok (n : Nat) : ∀ (a : List (Int × Int × Int × List Int)) (b : List (Int × Int × Int × List Int)) (out : List (Int × Int × Int × List Int)) (w : List (Int × Int × Int × List Int)) (h : f42_capture_Merge_L2 n a b out = some w) (o : Out) (hk : f42_capture_Merge_L2_k w o), At Go.Proofs.Try.prog Go.Proofs.Try.f42 0 2 ⟨[(0, .one (.c (.d (.sl (.pair (.int .i64) (.pair (.int .i64) (.pair (.int .i64) (.slice (.int .u8))))) a)))), (1, .one (.c (.d (.sl (.pair (.int .i64) (.pair (.int .i64) (.pair (.int .i64) (.slice (.int .u8))))) b)))), (5, .one (.c (.own 0 (.pair (.int .i64) (.pair (.int .i64) (.pair (.int .i64) (.slice (.int .u8))))) out)))], [(0, some ⟨82, 0⟩)], [], 1⟩ o := by
  induction n with
  | zero => intro a b out w h; rw [f42_capture_Merge_L2] at h; cases h
  | succ n ih =>
    intro a b out w h o hk
    rw [f42_capture_Merge_L2] at h
    rcases iteS h with ⟨b31_3, h⟩ | ⟨b31_3, h⟩
    · refine At.step hm ht ⟨[(3, .b true)], [true], [], [0, 1, 5], [0]⟩ 3 ⟨[(0, .one (.c (.d (.sl (.pair (.int .i64) (.pair (.int .i64) (.pair (.int .i64) (.slice (.int .u8))))) a)))), (1, .one (.c (.d (.sl (.pair (.int .i64) (.pair (.int .i64) (.pair (.int .i64) (.slice (.int .u8))))) b)))), (5, .one (.c (.own 0 (.pair (.int .i64) (.pair (.int .i64) (.pair (.int .i64) (.slice (.int .u8))))) out)))], [(0, some ⟨82, 0⟩)], [], 1⟩ [(decide ((((a.length : Nat) : Int) : Int) > 0)) = true, true = true] (by kernel_rfl) ⟨b31_3, rfl, trivial⟩ ?_
      rcases iteS h with ⟨b32_3, h⟩ | ⟨b32_3, h⟩
      · refine At.step hm ht ⟨[(3, .b true)], [true], [], [0, 1, 5], [0]⟩ 4 ⟨[(0, .one (.c (.d (.sl (.pair (.int .i64) (.pair (.int .i64) (.pair (.int .i64) (.slice (.int .u8))))) a)))), (1, .one (.c (.d (.sl (.pair (.int .i64) (.pair (.int .i64) (.pair (.int .i64) (.slice (.int .u8))))) b)))), (5, .one (.c (.own 0 (.pair (.int .i64) (.pair (.int .i64) (.pair (.int .i64) (.slice (.int .u8))))) out)))], [(0, some ⟨82, 0⟩)], [], 1⟩ [((((b.length : Nat) : Int) : Int) == 0) = true, true = true] (by kernel_rfl) ⟨b32_3, rfl, trivial⟩ ?_
        obtain ⟨g33_0, h⟩ := ifS h
        obtain ⟨r33_1, cr33_1, h⟩ := bindS h
        obtain ⟨g33_2, h⟩ := ifS h
        refine At.step hm ht ⟨[(4, .call [] [] (f95_capture_copied_out r33_1))], [], [], [0, 1, 5], [8]⟩ 5 ⟨[(0, .one (.c (.d (.sl (.pair (.int .i64) (.pair (.int .i64) (.pair (.int .i64) (.slice (.int .u8))))) a)))), (1, .one (.c (.d (.sl (.pair (.int .i64) (.pair (.int .i64) (.pair (.int .i64) (.slice (.int .u8))))) b)))), (5, .one (.c (.own 0 (.pair (.int .i64) (.pair (.int .i64) (.pair (.int .i64) (.slice (.int .u8))))) (out ++ [r33_1]))))], [(0, some ⟨82, 0⟩)], [], 1⟩ [(0 : Int) ≤ 0 ∧ 0 < (((a).length : Nat) : Int), FnOK Go.Proofs.Try.prog 95 (f95_capture_copied_in ((a.getD 0 (0, (0, (0, [])))).1) (((a.getD 0 (0, (0, (0, [])))).2).1) ((((a.getD 0 (0, (0, (0, [])))).2).2).1) ((((a.getD 0 (0, (0, (0, [])))).2).2).2)) (f95_capture_copied_out r33_1), out.length + [r33_1].length ≤ maxLen ∧ (out.length + [r33_1].length) * 48 ≤ 140737488355328] (by kernel_rfl) ⟨g33_0, (f95_capture_copied_ok ((a.getD 0 (0, (0, (0, [])))).1) (((a.getD 0 (0, (0, (0, [])))).2).1) ((((a.getD 0 (0, (0, (0, [])))).2).2).1) ((((a.getD 0 (0, (0, (0, [])))).2).2).2) r33_1 cr33_1), g33_2, trivial⟩ ?_
        obtain ⟨g34_0, h⟩ := ifS h
        refine At.step hm ht ⟨[], [], [], [0, 1, 5], [0]⟩ 2 ⟨[(0, .one (.c (.d (.sl (.pair (.int .i64) (.pair (.int .i64) (.pair (.int .i64) (.slice (.int .u8))))) ((a.take a.length).drop 1))))), (1, .one (.c (.d (.sl (.pair (.int .i64) (.pair (.int .i64) (.pair (.int .i64) (.slice (.int .u8))))) b)))), (5, .one (.c (.own 0 (.pair (.int .i64) (.pair (.int .i64) (.pair (.int .i64) (.slice (.int .u8))))) (out ++ [r33_1]))))], [(0, some ⟨82, 0⟩)], [], 1⟩ [cutOk a.length (some 1) none none] (by kernel_rfl) ⟨g34_0, trivial⟩ ?_
        exact ih ((a.take a.length).drop 1) b (out ++ [r33_1]) w h o hk
      · rcases iteS h with ⟨b32_7, h⟩ | ⟨b32_7, h⟩
        · obtain ⟨g32_0, h⟩ := ifS h
          obtain ⟨g32_1, h⟩ := ifS h
          rcases iteS h with ⟨b32_e0, h⟩ | ⟨b32_e0, h⟩
          · refine At.step hm ht ⟨[(3, .b false), (7, .b true)], [true], [], [0, 1, 5], [0]⟩ 4 ⟨[(0, .one (.c (.d (.sl (.pair (.int .i64) (.pair (.int .i64) (.pair (.int .i64) (.slice (.int .u8))))) a)))), (1, .one (.c (.d (.sl (.pair (.int .i64) (.pair (.int .i64) (.pair (.int .i64) (.slice (.int .u8))))) b)))), (5, .one (.c (.own 0 (.pair (.int .i64) (.pair (.int .i64) (.pair (.int .i64) (.slice (.int .u8))))) out)))], [(0, some ⟨82, 0⟩)], [], 1⟩ [((((b.length : Nat) : Int) : Int) == 0) = false, (decide ((((a.length : Nat) : Int) : Int) > 0)) = true, (0 : Int) ≤ 0 ∧ 0 < (((a).length : Nat) : Int), (0 : Int) ≤ 0 ∧ 0 < (((b).length : Nat) : Int), (decide ((((a.getD 0 (0, (0, (0, [])))).1) : Int) ≤ ((b.getD 0 (0, (0, (0, [])))).1))) = true] (by kernel_rfl) ⟨b32_3, b32_7, g32_0, g32_1, b32_e0, trivial⟩ ?_
            obtain ⟨g35_0, h⟩ := ifS h
            obtain ⟨r35_1, cr35_1, h⟩ := bindS h
            obtain ⟨g35_2, h⟩ := ifS h
            refine At.step hm ht ⟨[(4, .call [] [] (f95_capture_copied_out r35_1))], [], [], [0, 1, 5], [8]⟩ 5 ⟨[(0, .one (.c (.d (.sl (.pair (.int .i64) (.pair (.int .i64) (.pair (.int .i64) (.slice (.int .u8))))) a)))), (1, .one (.c (.d (.sl (.pair (.int .i64) (.pair (.int .i64) (.pair (.int .i64) (.slice (.int .u8))))) b)))), (5, .one (.c (.own 0 (.pair (.int .i64) (.pair (.int .i64) (.pair (.int .i64) (.slice (.int .u8))))) (out ++ [r35_1]))))], [(0, some ⟨82, 0⟩)], [], 1⟩ [(0 : Int) ≤ 0 ∧ 0 < (((a).length : Nat) : Int), FnOK Go.Proofs.Try.prog 95 (f95_capture_copied_in ((a.getD 0 (0, (0, (0, [])))).1) (((a.getD 0 (0, (0, (0, [])))).2).1) ((((a.getD 0 (0, (0, (0, [])))).2).2).1) ((((a.getD 0 (0, (0, (0, [])))).2).2).2)) (f95_capture_copied_out r35_1), out.length + [r35_1].length ≤ maxLen ∧ (out.length + [r35_1].length) * 48 ≤ 140737488355328] (by kernel_rfl) ⟨g35_0, (f95_capture_copied_ok ((a.getD 0 (0, (0, (0, [])))).1) (((a.getD 0 (0, (0, (0, [])))).2).1) ((((a.getD 0 (0, (0, (0, [])))).2).2).1) ((((a.getD 0 (0, (0, (0, [])))).2).2).2) r35_1 cr35_1), g35_2, trivial⟩ ?_
            obtain ⟨g36_0, h⟩ := ifS h
            refine At.step hm ht ⟨[], [], [], [0, 1, 5], [0]⟩ 2 ⟨[(0, .one (.c (.d (.sl (.pair (.int .i64) (.pair (.int .i64) (.pair (.int .i64) (.slice (.int .u8))))) ((a.take a.length).drop 1))))), (1, .one (.c (.d (.sl (.pair (.int .i64) (.pair (.int .i64) (.pair (.int .i64) (.slice (.int .u8))))) b)))), (5, .one (.c (.own 0 (.pair (.int .i64) (.pair (.int .i64) (.pair (.int .i64) (.slice (.int .u8))))) (out ++ [r35_1]))))], [(0, some ⟨82, 0⟩)], [], 1⟩ [cutOk a.length (some 1) none none] (by kernel_rfl) ⟨g36_0, trivial⟩ ?_
            exact ih ((a.take a.length).drop 1) b (out ++ [r35_1]) w h o hk
          · refine At.step hm ht ⟨[(3, .b false), (7, .b true)], [false], [], [0, 1, 5], [0]⟩ 6 ⟨[(0, .one (.c (.d (.sl (.pair (.int .i64) (.pair (.int .i64) (.pair (.int .i64) (.slice (.int .u8))))) a)))), (1, .one (.c (.d (.sl (.pair (.int .i64) (.pair (.int .i64) (.pair (.int .i64) (.slice (.int .u8))))) b)))), (5, .one (.c (.own 0 (.pair (.int .i64) (.pair (.int .i64) (.pair (.int .i64) (.slice (.int .u8))))) out)))], [(0, some ⟨82, 0⟩)], [], 1⟩ [((((b.length : Nat) : Int) : Int) == 0) = false, (decide ((((a.length : Nat) : Int) : Int) > 0)) = true, (0 : Int) ≤ 0 ∧ 0 < (((a).length : Nat) : Int), (0 : Int) ≤ 0 ∧ 0 < (((b).length : Nat) : Int), (decide ((((a.getD 0 (0, (0, (0, [])))).1) : Int) ≤ ((b.getD 0 (0, (0, (0, [])))).1))) = false] (by kernel_rfl) ⟨b32_3, b32_7, g32_0, g32_1, b32_e0, trivial⟩ ?_
            obtain ⟨g37_0, h⟩ := ifS h
            obtain ⟨r37_1, cr37_1, h⟩ := bindS h
            obtain ⟨g37_2, h⟩ := ifS h
            refine At.step hm ht ⟨[(4, .call [] [] (f95_capture_copied_out r37_1))], [], [], [0, 1, 5], [8]⟩ 7 ⟨[(0, .one (.c (.d (.sl (.pair (.int .i64) (.pair (.int .i64) (.pair (.int .i64) (.slice (.int .u8))))) a)))), (1, .one (.c (.d (.sl (.pair (.int .i64) (.pair (.int .i64) (.pair (.int .i64) (.slice (.int .u8))))) b)))), (5, .one (.c (.own 0 (.pair (.int .i64) (.pair (.int .i64) (.pair (.int .i64) (.slice (.int .u8))))) (out ++ [r37_1]))))], [(0, some ⟨82, 0⟩)], [], 1⟩ [(0 : Int) ≤ 0 ∧ 0 < (((b).length : Nat) : Int), FnOK Go.Proofs.Try.prog 95 (f95_capture_copied_in ((b.getD 0 (0, (0, (0, [])))).1) (((b.getD 0 (0, (0, (0, [])))).2).1) ((((b.getD 0 (0, (0, (0, [])))).2).2).1) ((((b.getD 0 (0, (0, (0, [])))).2).2).2)) (f95_capture_copied_out r37_1), out.length + [r37_1].length ≤ maxLen ∧ (out.length + [r37_1].length) * 48 ≤ 140737488355328] (by kernel_rfl) ⟨g37_0, (f95_capture_copied_ok ((b.getD 0 (0, (0, (0, [])))).1) (((b.getD 0 (0, (0, (0, [])))).2).1) ((((b.getD 0 (0, (0, (0, [])))).2).2).1) ((((b.getD 0 (0, (0, (0, [])))).2).2).2) r37_1 cr37_1), g37_2, trivial⟩ ?_
            obtain ⟨g38_0, h⟩ := ifS h
            refine At.step hm ht ⟨[], [], [], [0, 1, 5], [0]⟩ 2 ⟨[(0, .one (.c (.d (.sl (.pair (.int .i64) (.pair (.int .i64) (.pair (.int .i64) (.slice (.int .u8))))) a)))), (1, .one (.c (.d (.sl (.pair (.int .i64) (.pair (.int .i64) (.pair (.int .i64) (.slice (.int .u8))))) ((b.take b.length).drop 1))))), (5, .one (.c (.own 0 (.pair (.int .i64) (.pair (.int .i64) (.pair (.int .i64) (.slice (.int .u8))))) (out ++ [r37_1]))))], [(0, some ⟨82, 0⟩)], [], 1⟩ [cutOk b.length (some 1) none none] (by kernel_rfl) ⟨g38_0, trivial⟩ ?_
            exact ih a ((b.take b.length).drop 1) (out ++ [r37_1]) w h o hk
        · refine At.step hm ht ⟨[(3, .b false), (7, .b false)], [false], [], [0, 1, 5], [0]⟩ 6 ⟨[(0, .one (.c (.d (.sl (.pair (.int .i64) (.pair (.int .i64) (.pair (.int .i64) (.slice (.int .u8))))) a)))), (1, .one (.c (.d (.sl (.pair (.int .i64) (.pair (.int .i64) (.pair (.int .i64) (.slice (.int .u8))))) b)))), (5, .one (.c (.own 0 (.pair (.int .i64) (.pair (.int .i64) (.pair (.int .i64) (.slice (.int .u8))))) out)))], [(0, some ⟨82, 0⟩)], [], 1⟩ [((((b.length : Nat) : Int) : Int) == 0) = false, (decide ((((a.length : Nat) : Int) : Int) > 0)) = false, false = false] (by kernel_rfl) ⟨b32_3, b32_7, rfl, trivial⟩ ?_
          obtain ⟨g39_0, h⟩ := ifS h
          obtain ⟨r39_1, cr39_1, h⟩ := bindS h
          obtain ⟨g39_2, h⟩ := ifS h
          refine At.step hm ht ⟨[(4, .call [] [] (f95_capture_copied_out r39_1))], [], [], [0, 1, 5], [8]⟩ 7 ⟨[(0, .one (.c (.d (.sl (.pair (.int .i64) (.pair (.int .i64) (.pair (.int .i64) (.slice (.int .u8))))) a)))), (1, .one (.c (.d (.sl (.pair (.int .i64) (.pair (.int .i64) (.pair (.int .i64) (.slice (.int .u8))))) b)))), (5, .one (.c (.own 0 (.pair (.int .i64) (.pair (.int .i64) (.pair (.int .i64) (.slice (.int .u8))))) (out ++ [r39_1]))))], [(0, some ⟨82, 0⟩)], [], 1⟩ [(0 : Int) ≤ 0 ∧ 0 < (((b).length : Nat) : Int), FnOK Go.Proofs.Try.prog 95 (f95_capture_copied_in ((b.getD 0 (0, (0, (0, [])))).1) (((b.getD 0 (0, (0, (0, [])))).2).1) ((((b.getD 0 (0, (0, (0, [])))).2).2).1) ((((b.getD 0 (0, (0, (0, [])))).2).2).2)) (f95_capture_copied_out r39_1), out.length + [r39_1].length ≤ maxLen ∧ (out.length + [r39_1].length) * 48 ≤ 140737488355328] (by kernel_rfl) ⟨g39_0, (f95_capture_copied_ok ((b.getD 0 (0, (0, (0, [])))).1) (((b.getD 0 (0, (0, (0, [])))).2).1) ((((b.getD 0 (0, (0, (0, [])))).2).2).1) ((((b.getD 0 (0, (0, (0, [])))).2).2).2) r39_1 cr39_1), g39_2, trivial⟩ ?_
          obtain ⟨g40_0, h⟩ := ifS h
          refine At.step hm ht ⟨[], [], [], [0, 1, 5], [0]⟩ 2 ⟨[(0, .one (.c (.d (.sl (.pair (.int .i64) (.pair (.int .i64) (.pair (.int .i64) (.slice (.int .u8))))) a)))), (1, .one (.c (.d (.sl (.pair (.int .i64) (.pair (.int .i64) (.pair (.int .i64) (.slice (.int .u8))))) ((b.take b.length).drop 1))))), (5, .one (.c (.own 0 (.pair (.int .i64) (.pair (.int .i64) (.pair (.int .i64) (.slice (.int .u8))))) (out ++ [r39_1]))))], [(0, some ⟨82, 0⟩)], [], 1⟩ [cutOk b.length (some 1) none none] (by kernel_rfl) ⟨g40_0, trivial⟩ ?_
          exact ih a ((b.take b.length).drop 1) (out ++ [r39_1]) w h o hk
    · rcases iteS h with ⟨b31_e0, h⟩ | ⟨b31_e0, h⟩
      · refine At.step hm ht ⟨[(3, .b false)], [true], [], [0, 1, 5], [0]⟩ 3 ⟨[(0, .one (.c (.d (.sl (.pair (.int .i64) (.pair (.int .i64) (.pair (.int .i64) (.slice (.int .u8))))) a)))), (1, .one (.c (.d (.sl (.pair (.int .i64) (.pair (.int .i64) (.pair (.int .i64) (.slice (.int .u8))))) b)))), (5, .one (.c (.own 0 (.pair (.int .i64) (.pair (.int .i64) (.pair (.int .i64) (.slice (.int .u8))))) out)))], [(0, some ⟨82, 0⟩)], [], 1⟩ [(decide ((((a.length : Nat) : Int) : Int) > 0)) = false, (decide ((((b.length : Nat) : Int) : Int) > 0)) = true] (by kernel_rfl) ⟨b31_3, b31_e0, trivial⟩ ?_
        rcases iteS h with ⟨b41_3, h⟩ | ⟨b41_3, h⟩
        · refine At.step hm ht ⟨[(3, .b true)], [true], [], [0, 1, 5], [0]⟩ 4 ⟨[(0, .one (.c (.d (.sl (.pair (.int .i64) (.pair (.int .i64) (.pair (.int .i64) (.slice (.int .u8))))) a)))), (1, .one (.c (.d (.sl (.pair (.int .i64) (.pair (.int .i64) (.pair (.int .i64) (.slice (.int .u8))))) b)))), (5, .one (.c (.own 0 (.pair (.int .i64) (.pair (.int .i64) (.pair (.int .i64) (.slice (.int .u8))))) out)))], [(0, some ⟨82, 0⟩)], [], 1⟩ [((((b.length : Nat) : Int) : Int) == 0) = true, true = true] (by kernel_rfl) ⟨b41_3, rfl, trivial⟩ ?_
          obtain ⟨g42_0, h⟩ := ifS h
          obtain ⟨r42_1, cr42_1, h⟩ := bindS h
          obtain ⟨g42_2, h⟩ := ifS h
          refine At.step hm ht ⟨[(4, .call [] [] (f95_capture_copied_out r42_1))], [], [], [0, 1, 5], [8]⟩ 5 ⟨[(0, .one (.c (.d (.sl (.pair (.int .i64) (.pair (.int .i64) (.pair (.int .i64) (.slice (.int .u8))))) a)))), (1, .one (.c (.d (.sl (.pair (.int .i64) (.pair (.int .i64) (.pair (.int .i64) (.slice (.int .u8))))) b)))), (5, .one (.c (.own 0 (.pair (.int .i64) (.pair (.int .i64) (.pair (.int .i64) (.slice (.int .u8))))) (out ++ [r42_1]))))], [(0, some ⟨82, 0⟩)], [], 1⟩ [(0 : Int) ≤ 0 ∧ 0 < (((a).length : Nat) : Int), FnOK Go.Proofs.Try.prog 95 (f95_capture_copied_in ((a.getD 0 (0, (0, (0, [])))).1) (((a.getD 0 (0, (0, (0, [])))).2).1) ((((a.getD 0 (0, (0, (0, [])))).2).2).1) ((((a.getD 0 (0, (0, (0, [])))).2).2).2)) (f95_capture_copied_out r42_1), out.length + [r42_1].length ≤ maxLen ∧ (out.length + [r42_1].length) * 48 ≤ 140737488355328] (by kernel_rfl) ⟨g42_0, (f95_capture_copied_ok ((a.getD 0 (0, (0, (0, [])))).1) (((a.getD 0 (0, (0, (0, [])))).2).1) ((((a.getD 0 (0, (0, (0, [])))).2).2).1) ((((a.getD 0 (0, (0, (0, [])))).2).2).2) r42_1 cr42_1), g42_2, trivial⟩ ?_
          obtain ⟨g43_0, h⟩ := ifS h
          refine At.step hm ht ⟨[], [], [], [0, 1, 5], [0]⟩ 2 ⟨[(0, .one (.c (.d (.sl (.pair (.int .i64) (.pair (.int .i64) (.pair (.int .i64) (.slice (.int .u8))))) ((a.take a.length).drop 1))))), (1, .one (.c (.d (.sl (.pair (.int .i64) (.pair (.int .i64) (.pair (.int .i64) (.slice (.int .u8))))) b)))), (5, .one (.c (.own 0 (.pair (.int .i64) (.pair (.int .i64) (.pair (.int .i64) (.slice (.int .u8))))) (out ++ [r42_1]))))], [(0, some ⟨82, 0⟩)], [], 1⟩ [cutOk a.length (some 1) none none] (by kernel_rfl) ⟨g43_0, trivial⟩ ?_
          exact ih ((a.take a.length).drop 1) b (out ++ [r42_1]) w h o hk
        · rcases iteS h with ⟨b41_7, h⟩ | ⟨b41_7, h⟩
          · obtain ⟨g41_0, h⟩ := ifS h
            obtain ⟨g41_1, h⟩ := ifS h
            rcases iteS h with ⟨b41_e0, h⟩ | ⟨b41_e0, h⟩
            · refine At.step hm ht ⟨[(3, .b false), (7, .b true)], [true], [], [0, 1, 5], [0]⟩ 4 ⟨[(0, .one (.c (.d (.sl (.pair (.int .i64) (.pair (.int .i64) (.pair (.int .i64) (.slice (.int .u8))))) a)))), (1, .one (.c (.d (.sl (.pair (.int .i64) (.pair (.int .i64) (.pair (.int .i64) (.slice (.int .u8))))) b)))), (5, .one (.c (.own 0 (.pair (.int .i64) (.pair (.int .i64) (.pair (.int .i64) (.slice (.int .u8))))) out)))], [(0, some ⟨82, 0⟩)], [], 1⟩ [((((b.length : Nat) : Int) : Int) == 0) = false, (decide ((((a.length : Nat) : Int) : Int) > 0)) = true, (0 : Int) ≤ 0 ∧ 0 < (((a).length : Nat) : Int), (0 : Int) ≤ 0 ∧ 0 < (((b).length : Nat) : Int), (decide ((((a.getD 0 (0, (0, (0, [])))).1) : Int) ≤ ((b.getD 0 (0, (0, (0, [])))).1))) = true] (by kernel_rfl) ⟨b41_3, b41_7, g41_0, g41_1, b41_e0, trivial⟩ ?_
              obtain ⟨g44_0, h⟩ := ifS h
              obtain ⟨r44_1, cr44_1, h⟩ := bindS h
              obtain ⟨g44_2, h⟩ := ifS h
              refine At.step hm ht ⟨[(4, .call [] [] (f95_capture_copied_out r44_1))], [], [], [0, 1, 5], [8]⟩ 5 ⟨[(0, .one (.c (.d (.sl (.pair (.int .i64) (.pair (.int .i64) (.pair (.int .i64) (.slice (.int .u8))))) a)))), (1, .one (.c (.d (.sl (.pair (.int .i64) (.pair (.int .i64) (.pair (.int .i64) (.slice (.int .u8))))) b)))), (5, .one (.c (.own 0 (.pair (.int .i64) (.pair (.int .i64) (.pair (.int .i64) (.slice (.int .u8))))) (out ++ [r44_1]))))], [(0, some ⟨82, 0⟩)], [], 1⟩ [(0 : Int) ≤ 0 ∧ 0 < (((a).length : Nat) : Int), FnOK Go.Proofs.Try.prog 95 (f95_capture_copied_in ((a.getD 0 (0, (0, (0, [])))).1) (((a.getD 0 (0, (0, (0, [])))).2).1) ((((a.getD 0 (0, (0, (0, [])))).2).2).1) ((((a.getD 0 (0, (0, (0, [])))).2).2).2)) (f95_capture_copied_out r44_1), out.length + [r44_1].length ≤ maxLen ∧ (out.length + [r44_1].length) * 48 ≤ 140737488355328] (by kernel_rfl) ⟨g44_0, (f95_capture_copied_ok ((a.getD 0 (0, (0, (0, [])))).1) (((a.getD 0 (0, (0, (0, [])))).2).1) ((((a.getD 0 (0, (0, (0, [])))).2).2).1) ((((a.getD 0 (0, (0, (0, [])))).2).2).2) r44_1 cr44_1), g44_2, trivial⟩ ?_
              obtain ⟨g45_0, h⟩ := ifS h
              refine At.step hm ht ⟨[], [], [], [0, 1, 5], [0]⟩ 2 ⟨[(0, .one (.c (.d (.sl (.pair (.int .i64) (.pair (.int .i64) (.pair (.int .i64) (.slice (.int .u8))))) ((a.take a.length).drop 1))))), (1, .one (.c (.d (.sl (.pair (.int .i64) (.pair (.int .i64) (.pair (.int .i64) (.slice (.int .u8))))) b)))), (5, .one (.c (.own 0 (.pair (.int .i64) (.pair (.int .i64) (.pair (.int .i64) (.slice (.int .u8))))) (out ++ [r44_1]))))], [(0, some ⟨82, 0⟩)], [], 1⟩ [cutOk a.length (some 1) none none] (by kernel_rfl) ⟨g45_0, trivial⟩ ?_
              exact ih ((a.take a.length).drop 1) b (out ++ [r44_1]) w h o hk
            · refine At.step hm ht ⟨[(3, .b false), (7, .b true)], [false], [], [0, 1, 5], [0]⟩ 6 ⟨[(0, .one (.c (.d (.sl (.pair (.int .i64) (.pair (.int .i64) (.pair (.int .i64) (.slice (.int .u8))))) a)))), (1, .one (.c (.d (.sl (.pair (.int .i64) (.pair (.int .i64) (.pair (.int .i64) (.slice (.int .u8))))) b)))), (5, .one (.c (.own 0 (.pair (.int .i64) (.pair (.int .i64) (.pair (.int .i64) (.slice (.int .u8))))) out)))], [(0, some ⟨82, 0⟩)], [], 1⟩ [((((b.length : Nat) : Int) : Int) == 0) = false, (decide ((((a.length : Nat) : Int) : Int) > 0)) = true, (0 : Int) ≤ 0 ∧ 0 < (((a).length : Nat) : Int), (0 : Int) ≤ 0 ∧ 0 < (((b).length : Nat) : Int), (decide ((((a.getD 0 (0, (0, (0, [])))).1) : Int) ≤ ((b.getD 0 (0, (0, (0, [])))).1))) = false] (by kernel_rfl) ⟨b41_3, b41_7, g41_0, g41_1, b41_e0, trivial⟩ ?_
              obtain ⟨g46_0, h⟩ := ifS h
              obtain ⟨r46_1, cr46_1, h⟩ := bindS h
              obtain ⟨g46_2, h⟩ := ifS h
              refine At.step hm ht ⟨[(4, .call [] [] (f95_capture_copied_out r46_1))], [], [], [0, 1, 5], [8]⟩ 7 ⟨[(0, .one (.c (.d (.sl (.pair (.int .i64) (.pair (.int .i64) (.pair (.int .i64) (.slice (.int .u8))))) a)))), (1, .one (.c (.d (.sl (.pair (.int .i64) (.pair (.int .i64) (.pair (.int .i64) (.slice (.int .u8))))) b)))), (5, .one (.c (.own 0 (.pair (.int .i64) (.pair (.int .i64) (.pair (.int .i64) (.slice (.int .u8))))) (out ++ [r46_1]))))], [(0, some ⟨82, 0⟩)], [], 1⟩ [(0 : Int) ≤ 0 ∧ 0 < (((b).length : Nat) : Int), FnOK Go.Proofs.Try.prog 95 (f95_capture_copied_in ((b.getD 0 (0, (0, (0, [])))).1) (((b.getD 0 (0, (0, (0, [])))).2).1) ((((b.getD 0 (0, (0, (0, [])))).2).2).1) ((((b.getD 0 (0, (0, (0, [])))).2).2).2)) (f95_capture_copied_out r46_1), out.length + [r46_1].length ≤ maxLen ∧ (out.length + [r46_1].length) * 48 ≤ 140737488355328] (by kernel_rfl) ⟨g46_0, (f95_capture_copied_ok ((b.getD 0 (0, (0, (0, [])))).1) (((b.getD 0 (0, (0, (0, [])))).2).1) ((((b.getD 0 (0, (0, (0, [])))).2).2).1) ((((b.getD 0 (0, (0, (0, [])))).2).2).2) r46_1 cr46_1), g46_2, trivial⟩ ?_
              obtain ⟨g47_0, h⟩ := ifS h
              refine At.step hm ht ⟨[], [], [], [0, 1, 5], [0]⟩ 2 ⟨[(0, .one (.c (.d (.sl (.pair (.int .i64) (.pair (.int .i64) (.pair (.int .i64) (.slice (.int .u8))))) a)))), (1, .one (.c (.d (.sl (.pair (.int .i64) (.pair (.int .i64) (.pair (.int .i64) (.slice (.int .u8))))) ((b.take b.length).drop 1))))), (5, .one (.c (.own 0 (.pair (.int .i64) (.pair (.int .i64) (.pair (.int .i64) (.slice (.int .u8))))) (out ++ [r46_1]))))], [(0, some ⟨82, 0⟩)], [], 1⟩ [cutOk b.length (some 1) none none] (by kernel_rfl) ⟨g47_0, trivial⟩ ?_
              exact ih a ((b.take b.length).drop 1) (out ++ [r46_1]) w h o hk
          · refine At.step hm ht ⟨[(3, .b false), (7, .b false)], [false], [], [0, 1, 5], [0]⟩ 6 ⟨[(0, .one (.c (.d (.sl (.pair (.int .i64) (.pair (.int .i64) (.pair (.int .i64) (.slice (.int .u8))))) a)))), (1, .one (.c (.d (.sl (.pair (.int .i64) (.pair (.int .i64) (.pair (.int .i64) (.slice (.int .u8))))) b)))), (5, .one (.c (.own 0 (.pair (.int .i64) (.pair (.int .i64) (.pair (.int .i64) (.slice (.int .u8))))) out)))], [(0, some ⟨82, 0⟩)], [], 1⟩ [((((b.length : Nat) : Int) : Int) == 0) = false, (decide ((((a.length : Nat) : Int) : Int) > 0)) = false, false = false] (by kernel_rfl) ⟨b41_3, b41_7, rfl, trivial⟩ ?_
            obtain ⟨g48_0, h⟩ := ifS h
            obtain ⟨r48_1, cr48_1, h⟩ := bindS h
            obtain ⟨g48_2, h⟩ := ifS h
            refine At.step hm ht ⟨[(4, .call [] [] (f95_capture_copied_out r48_1))], [], [], [0, 1, 5], [8]⟩ 7 ⟨[(0, .one (.c (.d (.sl (.pair (.int .i64) (.pair (.int .i64) (.pair (.int .i64) (.slice (.int .u8))))) a)))), (1, .one (.c (.d (.sl (.pair (.int .i64) (.pair (.int .i64) (.pair (.int .i64) (.slice (.int .u8))))) b)))), (5, .one (.c (.own 0 (.pair (.int .i64) (.pair (.int .i64) (.pair (.int .i64) (.slice (.int .u8))))) (out ++ [r48_1]))))], [(0, some ⟨82, 0⟩)], [], 1⟩ [(0 : Int) ≤ 0 ∧ 0 < (((b).length : Nat) : Int), FnOK Go.Proofs.Try.prog 95 (f95_capture_copied_in ((b.getD 0 (0, (0, (0, [])))).1) (((b.getD 0 (0, (0, (0, [])))).2).1) ((((b.getD 0 (0, (0, (0, [])))).2).2).1) ((((b.getD 0 (0, (0, (0, [])))).2).2).2)) (f95_capture_copied_out r48_1), out.length + [r48_1].length ≤ maxLen ∧ (out.length + [r48_1].length) * 48 ≤ 140737488355328] (by kernel_rfl) ⟨g48_0, (f95_capture_copied_ok ((b.getD 0 (0, (0, (0, [])))).1) (((b.getD 0 (0, (0, (0, [])))).2).1) ((((b.getD 0 (0, (0, (0, [])))).2).2).1) ((((b.getD 0 (0, (0, (0, [])))).2).2).2) r48_1 cr48_1), g48_2, trivial⟩ ?_
            obtain ⟨g49_0, h⟩ := ifS h
            refine At.step hm ht ⟨[], [], [], [0, 1, 5], [0]⟩ 2 ⟨[(0, .one (.c (.d (.sl (.pair (.int .i64) (.pair (.int .i64) (.pair (.int .i64) (.slice (.int .u8))))) a)))), (1, .one (.c (.d (.sl (.pair (.int .i64) (.pair (.int .i64) (.pair (.int .i64) (.slice (.int .u8))))) ((b.take b.length).drop 1))))), (5, .one (.c (.own 0 (.pair (.int .i64) (.pair (.int .i64) (.pair (.int .i64) (.slice (.int .u8))))) (out ++ [r48_1]))))], [(0, some ⟨82, 0⟩)], [], 1⟩ [cutOk b.length (some 1) none none] (by kernel_rfl) ⟨g49_0, trivial⟩ ?_
            exact ih a ((b.take b.length).drop 1) (out ++ [r48_1]) w h o hk
      · refine At.step hm ht ⟨[(3, .b false)], [false], [], [5], [0]⟩ 8 ⟨[(5, .one (.c (.own 0 (.pair (.int .i64) (.pair (.int .i64) (.pair (.int .i64) (.slice (.int .u8))))) out)))], [(0, some ⟨82, 0⟩)], [], 1⟩ [(decide ((((a.length : Nat) : Int) : Int) > 0)) = false, (decide ((((b.length : Nat) : Int) : Int) > 0)) = false] (by kernel_rfl) ⟨b31_3, b31_e0, trivial⟩ ?_
        have h := Option.some.inj h
        subst h
        exact hk
def f42_capture_Merge (n : Nat) (a : List (Int × Int × Int × List Int)) (b : List (Int × Int × Int × List Int)) : Option (List (Int × Int × Int × List Int)) :=
  (f42_capture_Merge_L2 n a b []).bind fun w50 =>
  some w50
theorem f42_capture_Merge_ok (n : Nat) (a : List (Int × Int × Int × List Int)) (b : List (Int × Int × Int × List Int)) (r : List (Int × Int × Int × List Int)) (h : f42_capture_Merge n a b = some r) : FnOK Go.Proofs.Try.prog 42 (f42_capture_Merge_in a b) (f42_capture_Merge_out r) := by
  unfold f42_capture_Merge at h
  refine At.fn (r := 0) Go.Proofs.Try.func42 rfl (by kernel_rfl) rfl rfl (by kernel_rfl) ?_
  show At Go.Proofs.Try.prog Go.Proofs.Try.f42 0 0 ⟨[(0, .one (.c (.d (.sl (.pair (.int .i64) (.pair (.int .i64) (.pair (.int .i64) (.slice (.int .u8))))) a)))), (1, .one (.c (.d (.sl (.pair (.int .i64) (.pair (.int .i64) (.pair (.int .i64) (.slice (.int .u8))))) b))))], [], [], 0⟩ _
  refine At.step hm ht ⟨[], [], [], [0, 1], []⟩ 1 ⟨[(0, .one (.c (.d (.sl (.pair (.int .i64) (.pair (.int .i64) (.pair (.int .i64) (.slice (.int .u8))))) a)))), (1, .one (.c (.d (.sl (.pair (.int .i64) (.pair (.int .i64) (.pair (.int .i64) (.slice (.int .u8))))) b))))], [], [], 0⟩ [] (by kernel_rfl) trivial ?_
  refine At.step hm ht ⟨[], [], [.nil false 5 0 (.pair (.int .i64) (.pair (.int .i64) (.pair (.int .i64) (.slice (.int .u8))))) (some 82)], [0, 1, 5], [1]⟩ 2 ⟨[(0, .one (.c (.d (.sl (.pair (.int .i64) (.pair (.int .i64) (.pair (.int .i64) (.slice (.int .u8))))) a)))), (1, .one (.c (.d (.sl (.pair (.int .i64) (.pair (.int .i64) (.pair (.int .i64) (.slice (.int .u8))))) b)))), (5, .one (.c (.own 0 (.pair (.int .i64) (.pair (.int .i64) (.pair (.int .i64) (.slice (.int .u8))))) [])))], [(0, some ⟨82, 0⟩)], [], 1⟩ [] (by kernel_rfl) trivial ?_
  obtain ⟨w50, cw50, h⟩ := bindS h
  refine f42_capture_Merge_L2_ok n a b [] w50 cw50 _ ?_
  show At Go.Proofs.Try.prog Go.Proofs.Try.f42 0 8 ⟨[(5, .one (.c (.own 0 (.pair (.int .i64) (.pair (.int .i64) (.pair (.int .i64) (.slice (.int .u8))))) w50)))], [(0, some ⟨82, 0⟩)], [], 1⟩ _
  have h := Option.some.inj h
  subst h
  exact At.fin hm ht ⟨[], [], [], [4], [0]⟩ [] (by kernel_rfl) trivial
/-! brougham/broughamlaw34.plain -/
def f22_broughamlaw34_plain_in (l : List (Int × Int × Int × List Int)) : Inn := ⟨[.c (.d (.sl (.pair (.int .i64) (.pair (.int .i64) (.pair (.int .i64) (.slice (.int .u8))))) l))], [], [], 0⟩
def f22_broughamlaw34_plain_out (r : List (Int × Int × Int × ByteArray)) : Out := ⟨.one (.c (.own 0 (.pair (.int .i64) (.pair (.int .i64) (.pair (.int .i64) .str))) r)), [(0, ⟨84, 0⟩)], [], 1⟩
def f22_broughamlaw34_plain_L3 : Nat → (List (Int × Int × Int × List Int)) → (List (Int × Int × Int × ByteArray)) → Int → Option (List (Int × Int × Int × ByteArray))
  | 0, _, _, _ => none
  | n + 1, l, out, i =>
    if (decide ((i : Int) < ((l.length : Nat) : Int))) = true then
      if (0 : Int) ≤ i ∧ i < (((l).length : Nat) : Int) then
      if (0 : Int) ≤ i ∧ i < (((l).length : Nat) : Int) then
      if (0 : Int) ≤ i ∧ i < (((l).length : Nat) : Int) then
      if (0 : Int) ≤ i ∧ i < (((l).length : Nat) : Int) then
      if out.length + [((l.getD i.toNat (0, (0, (0, [])))).1, (((l.getD i.toNat (0, (0, (0, [])))).2).1, ((((l.getD i.toNat (0, (0, (0, [])))).2).2).1, (strOfNums ((((l.getD i.toNat (0, (0, (0, [])))).2).2).2)))))].length ≤ maxLen ∧ (out.length + [((l.getD i.toNat (0, (0, (0, [])))).1, (((l.getD i.toNat (0, (0, (0, [])))).2).1, ((((l.getD i.toNat (0, (0, (0, [])))).2).2).1, (strOfNums ((((l.getD i.toNat (0, (0, (0, [])))).2).2).2)))))].length) * 40 ≤ 140737488355328 then
      f22_broughamlaw34_plain_L3 n l (out ++ [((l.getD i.toNat (0, (0, (0, [])))).1, (((l.getD i.toNat (0, (0, (0, [])))).2).1, ((((l.getD i.toNat (0, (0, (0, [])))).2).2).1, (strOfNums ((((l.getD i.toNat (0, (0, (0, [])))).2).2).2)))))]) (IntKind.wrap .i64 (i + 1))
      else none
      else none
      else none
      else none
      else none
    else
      some (out)
def f22_broughamlaw34_plain_L3_k (e : List (Int × Int × Int × ByteArray)) (o : Out) : Prop := At Go.Proofs.Try.prog Go.Proofs.Try.f22 0 6 ⟨[(3, .one (.c (.own 0 (.pair (.int .i64) (.pair (.int .i64) (.pair (.int .i64) .str))) e)))], [(0, some ⟨84, 0⟩)], [], 1⟩ o
theorem f22_broughamlaw34_plain_L3_ok (n : Nat) : ∀ (l : List (Int × Int × Int × List Int)) (out : List (Int × Int × Int × ByteArray)) (i : Int) (w : List (Int × Int × Int × ByteArray)) (h : f22_broughamlaw34_plain_L3 n l out i = some w) (o : Out) (hk : f22_broughamlaw34_plain_L3_k w o), At Go.Proofs.Try.prog Go.Proofs.Try.f22 0 3 ⟨[(0, .one (.c (.d (.sl (.pair (.int .i64) (.pair (.int .i64) (.pair (.int .i64) (.slice (.int .u8))))) l)))), (3, .one (.c (.own 0 (.pair (.int .i64) (.pair (.int .i64) (.pair (.int .i64) .str))) out))), (4, .one (.c (.d (.int .i64 i))))], [(0, some ⟨84, 0⟩)], [], 1⟩ o := by
  induction n with
  | zero => intro l out i w h; rw [f22_broughamlaw34_plain_L3] at h; cases h
  | succ n ih =>
    intro l out i w h o hk
    rw [f22_broughamlaw34_plain_L3] at h
    rcases iteS h with ⟨b62_e0, h⟩ | ⟨b62_e0, h⟩
    · refine At.step hm ht ⟨[], [true], [], [0, 3, 4], [0]⟩ 5 ⟨[(0, .one (.c (.d (.sl (.pair (.int .i64) (.pair (.int .i64) (.pair (.int .i64) (.slice (.int .u8))))) l)))), (3, .one (.c (.own 0 (.pair (.int .i64) (.pair (.int .i64) (.pair (.int .i64) .str))) out))), (4, .one (.c (.d (.int .i64 i))))], [(0, some ⟨84, 0⟩)], [], 1⟩ [(decide ((i : Int) < ((l.length : Nat) : Int))) = true] (by kernel_rfl) ⟨b62_e0, trivial⟩ ?_
      obtain ⟨g63_0, h⟩ := ifS h
      obtain ⟨g63_1, h⟩ := ifS h
      obtain ⟨g63_2, h⟩ := ifS h
      obtain ⟨g63_3, h⟩ := ifS h
      obtain ⟨g63_4, h⟩ := ifS h
      refine At.step hm ht ⟨[], [], [], [0, 3, 4], [25]⟩ 4 ⟨[(0, .one (.c (.d (.sl (.pair (.int .i64) (.pair (.int .i64) (.pair (.int .i64) (.slice (.int .u8))))) l)))), (3, .one (.c (.own 0 (.pair (.int .i64) (.pair (.int .i64) (.pair (.int .i64) .str))) (out ++ [((l.getD i.toNat (0, (0, (0, [])))).1, (((l.getD i.toNat (0, (0, (0, [])))).2).1, ((((l.getD i.toNat (0, (0, (0, [])))).2).2).1, (strOfNums ((((l.getD i.toNat (0, (0, (0, [])))).2).2).2)))))])))), (4, .one (.c (.d (.int .i64 i))))], [(0, some ⟨84, 0⟩)], [], 1⟩ [(0 : Int) ≤ i ∧ i < (((l).length : Nat) : Int), (0 : Int) ≤ i ∧ i < (((l).length : Nat) : Int), (0 : Int) ≤ i ∧ i < (((l).length : Nat) : Int), (0 : Int) ≤ i ∧ i < (((l).length : Nat) : Int), out.length + [((l.getD i.toNat (0, (0, (0, [])))).1, (((l.getD i.toNat (0, (0, (0, [])))).2).1, ((((l.getD i.toNat (0, (0, (0, [])))).2).2).1, (strOfNums ((((l.getD i.toNat (0, (0, (0, [])))).2).2).2)))))].length ≤ maxLen ∧ (out.length + [((l.getD i.toNat (0, (0, (0, [])))).1, (((l.getD i.toNat (0, (0, (0, [])))).2).1, ((((l.getD i.toNat (0, (0, (0, [])))).2).2).1, (strOfNums ((((l.getD i.toNat (0, (0, (0, [])))).2).2).2)))))].length) * 40 ≤ 140737488355328] (by kernel_rfl) ⟨g63_0, g63_1, g63_2, g63_3, g63_4, trivial⟩ ?_
      refine At.step hm ht ⟨[], [], [], [0, 3, 4], [0]⟩ 3 ⟨[(0, .one (.c (.d (.sl (.pair (.int .i64) (.pair (.int .i64) (.pair (.int .i64) (.slice (.int .u8))))) l)))), (3, .one (.c (.own 0 (.pair (.int .i64) (.pair (.int .i64) (.pair (.int .i64) .str))) (out ++ [((l.getD i.toNat (0, (0, (0, [])))).1, (((l.getD i.toNat (0, (0, (0, [])))).2).1, ((((l.getD i.toNat (0, (0, (0, [])))).2).2).1, (strOfNums ((((l.getD i.toNat (0, (0, (0, [])))).2).2).2)))))])))), (4, .one (.c (.d (.int .i64 (IntKind.wrap .i64 (i + 1))))))], [(0, some ⟨84, 0⟩)], [], 1⟩ [] (by kernel_rfl) trivial ?_
      exact ih l (out ++ [((l.getD i.toNat (0, (0, (0, [])))).1, (((l.getD i.toNat (0, (0, (0, [])))).2).1, ((((l.getD i.toNat (0, (0, (0, [])))).2).2).1, (strOfNums ((((l.getD i.toNat (0, (0, (0, [])))).2).2).2)))))]) (IntKind.wrap .i64 (i + 1)) w h o hk
    · refine At.step hm ht ⟨[], [false], [], [3], [0]⟩ 6 ⟨[(3, .one (.c (.own 0 (.pair (.int .i64) (.pair (.int .i64) (.pair (.int .i64) .str))) out)))], [(0, some ⟨84, 0⟩)], [], 1⟩ [(decide ((i : Int) < ((l.length : Nat) : Int))) = false] (by kernel_rfl) ⟨b62_e0, trivial⟩ ?_
      have h := Option.some.inj h
      subst h
      exact hk
def f22_broughamlaw34_plain (n : Nat) (l : List (Int × Int × Int × List Int)) : Option (List (Int × Int × Int × ByteArray)) :=
  (f22_broughamlaw34_plain_L3 n l [] 0).bind fun w65 =>
  some w65
theorem f22_broughamlaw34_plain_ok (n : Nat) (l : List (Int × Int × Int × List Int)) (r : List (Int × Int × Int × ByteArray)) (h : f22_broughamlaw34_plain n l = some r) : FnOK Go.Proofs.Try.prog 22 (f22_broughamlaw34_plain_in l) (f22_broughamlaw34_plain_out r) := by
  unfold f22_broughamlaw34_plain at h
  refine At.fn (r := 0) Go.Proofs.Try.func22 rfl (by kernel_rfl) rfl rfl (by kernel_rfl) ?_
  show At Go.Proofs.Try.prog Go.Proofs.Try.f22 0 0 ⟨[(0, .one (.c (.d (.sl (.pair (.int .i64) (.pair (.int .i64) (.pair (.int .i64) (.slice (.int .u8))))) l))))], [], [], 0⟩ _
  refine At.step hm ht ⟨[], [], [], [0], []⟩ 1 ⟨[(0, .one (.c (.d (.sl (.pair (.int .i64) (.pair (.int .i64) (.pair (.int .i64) (.slice (.int .u8))))) l))))], [], [], 0⟩ [] (by kernel_rfl) trivial ?_
  refine At.step hm ht ⟨[], [], [], [0, 3], []⟩ 2 ⟨[(0, .one (.c (.d (.sl (.pair (.int .i64) (.pair (.int .i64) (.pair (.int .i64) (.slice (.int .u8))))) l)))), (3, .one (.c (.d (.sl .unit []))))], [], [], 0⟩ [] (by kernel_rfl) trivial ?_
  refine At.step hm ht ⟨[], [], [.nil false 3 0 (.pair (.int .i64) (.pair (.int .i64) (.pair (.int .i64) .str))) (some 84)], [0, 3, 4], [1]⟩ 3 ⟨[(0, .one (.c (.d (.sl (.pair (.int .i64) (.pair (.int .i64) (.pair (.int .i64) (.slice (.int .u8))))) l)))), (3, .one (.c (.own 0 (.pair (.int .i64) (.pair (.int .i64) (.pair (.int .i64) .str))) []))), (4, .one (.c (.d (.int .i64 0))))], [(0, some ⟨84, 0⟩)], [], 1⟩ [] (by kernel_rfl) trivial ?_
  obtain ⟨w65, cw65, h⟩ := bindS h
  refine f22_broughamlaw34_plain_L3_ok n l [] 0 w65 cw65 _ ?_
  show At Go.Proofs.Try.prog Go.Proofs.Try.f22 0 6 ⟨[(3, .one (.c (.own 0 (.pair (.int .i64) (.pair (.int .i64) (.pair (.int .i64) .str))) w65)))], [(0, some ⟨84, 0⟩)], [], 1⟩ _
  have h := Option.some.inj h
  subst h
  exact At.fin hm ht ⟨[], [], [], [2], [0]⟩ [] (by kernel_rfl) trivial
/-! brougham/capture.Between -/
def f43_capture_Between_in (l : List (Int × Int × Int × List Int)) (from_ : Int) (to_ : Int) : Inn := ⟨[.c (.d (.sl (.pair (.int .i64) (.pair (.int .i64) (.pair (.int .i64) (.slice (.int .u8))))) l)), .c (.d (.int .i64 from_)), .c (.d (.int .i64 to_))], [], [], 0⟩
def f43_capture_Between_out (r : List (Int × Int × Int × List Int)) : Out := ⟨.one (.c (.own 0 (.pair (.int .i64) (.pair (.int .i64) (.pair (.int .i64) (.slice (.int .u8))))) r)), [(0, ⟨82, 0⟩)], [], 1⟩
def f43_capture_Between_L3 : Nat → Int → Int → (List (Int × Int × Int × List Int)) → (List (Int × Int × Int × List Int)) → Int → Int → Option (List (Int × Int × Int × List Int))
  | 0, _, _, _, _, _, _ => none
  | n + 1, from_, to_, out, t10, t11, t12 =>
    if (decide ((t12 : Int) < t11)) = true then
      if (0 : Int) ≤ t12 ∧ t12 < (((t10).length : Nat) : Int) then
      if (decide ((((t10.getD t12.toNat (0, (0, (0, [])))).1) : Int) ≥ from_)) = true then
        if (decide ((((t10.getD t12.toNat (0, (0, (0, [])))).1) : Int) < to_)) = true then
          (f95_capture_copied ((t10.getD t12.toNat (0, (0, (0, [])))).1) (((t10.getD t12.toNat (0, (0, (0, [])))).2).1) ((((t10.getD t12.toNat (0, (0, (0, [])))).2).2).1) ((((t10.getD t12.toNat (0, (0, (0, [])))).2).2).2)).bind fun r214_0 =>
          if out.length + [r214_0].length ≤ maxLen ∧ (out.length + [r214_0].length) * 48 ≤ 140737488355328 then
          f43_capture_Between_L3 n from_ to_ (out ++ [r214_0]) t10 t11 (IntKind.wrap .i64 (t12 + 1))
          else none
        else
          f43_capture_Between_L3 n from_ to_ out t10 t11 (IntKind.wrap .i64 (t12 + 1))
      else
        f43_capture_Between_L3 n from_ to_ out t10 t11 (IntKind.wrap .i64 (t12 + 1))
      else none
    else
      some (out)
def f43_capture_Between_L3_k (e : List (Int × Int × Int × List Int)) (o : Out) : Prop := At Go.Proofs.Try.prog Go.Proofs.Try.f43 0 8 ⟨[(7, .one (.c (.own 0 (.pair (.int .i64) (.pair (.int .i64) (.pair (.int .i64) (.slice (.int .u8))))) e)))], [(0, some ⟨82, 0⟩)], [], 1⟩ o
theorem f43_capture_Between_L3_ok (n : Nat) : ∀ (from_ : Int) (to_ : Int) (out : List (Int × Int × Int × List Int)) (t10 : List (Int × Int × Int × List Int)) (t11 : Int) (t12 : Int) (w : List (Int × Int × Int × List Int)) (h : f43_capture_Between_L3 n from_ to_ out t10 t11 t12 = some w) (o : Out) (hk : f43_capture_Between_L3_k w o), At Go.Proofs.Try.prog Go.Proofs.Try.f43 0 3 ⟨[(1, .one (.c (.d (.int .i64 from_)))), (2, .one (.c (.d (.int .i64 to_)))), (7, .one (.c (.own 0 (.pair (.int .i64) (.pair (.int .i64) (.pair (.int .i64) (.slice (.int .u8))))) out))), (10, .one (.c (.d (.sl (.pair (.int .i64) (.pair (.int .i64) (.pair (.int .i64) (.slice (.int .u8))))) t10)))), (11, .one (.c (.d (.int .i64 t11)))), (12, .one (.c (.d (.int .i64 t12))))], [(0, some ⟨82, 0⟩)], [], 1⟩ o := by
  induction n with
  | zero => intro from_ to_ out t10 t11 t12 w h; rw [f43_capture_Between_L3] at h; cases h
  | succ n ih =>
    intro from_ to_ out t10 t11 t12 w h o hk
    rw [f43_capture_Between_L3] at h
    rcases iteS h with ⟨b211_e0, h⟩ | ⟨b211_e0, h⟩
    · refine At.step hm ht ⟨[], [true], [], [1, 2, 7, 10, 11, 12], [0]⟩ 4 ⟨[(1, .one (.c (.d (.int .i64 from_)))), (2, .one (.c (.d (.int .i64 to_)))), (7, .one (.c (.own 0 (.pair (.int .i64) (.pair (.int .i64) (.pair (.int .i64) (.slice (.int .u8))))) out))), (10, .one (.c (.d (.sl (.pair (.int .i64) (.pair (.int .i64) (.pair (.int .i64) (.slice (.int .u8))))) t10)))), (11, .one (.c (.d (.int .i64 t11)))), (12, .one (.c (.d (.int .i64 t12))))], [(0, some ⟨82, 0⟩)], [], 1⟩ [(decide ((t12 : Int) < t11)) = true] (by kernel_rfl) ⟨b211_e0, trivial⟩ ?_
      obtain ⟨g212_0, h⟩ := ifS h
      refine At.step hm ht ⟨[], [], [], [1, 2, 7, 9, 10, 11, 12], [0, 3]⟩ 5 ⟨[(1, .one (.c (.d (.int .i64 from_)))), (2, .one (.c (.d (.int .i64 to_)))), (7, .one (.c (.own 0 (.pair (.int .i64) (.pair (.int .i64) (.pair (.int .i64) (.slice (.int .u8))))) out))), (9, .one (.c (.ptr 1 0))), (10, .one (.c (.d (.sl (.pair (.int .i64) (.pair (.int .i64) (.pair (.int .i64) (.slice (.int .u8))))) t10)))), (11, .one (.c (.d (.int .i64 t11)))), (12, .one (.c (.d (.int .i64 t12))))], [(0, some ⟨82, 0⟩)], [(1, [.d (.int .i64 ((t10.getD t12.toNat (0, (0, (0, [])))).1)), .d (.int .i64 (((t10.getD t12.toNat (0, (0, (0, [])))).2).1)), .d (.int .i64 ((((t10.getD t12.toNat (0, (0, (0, [])))).2).2).1)), .d (.sl (.int .u8) ((((t10.getD t12.toNat (0, (0, (0, [])))).2).2).2))])], 2⟩ [(0 : Int) ≤ t12 ∧ t12 < (((t10).length : Nat) : Int), 0 + 4 ≤ 4] (by kernel_rfl) ⟨g212_0, (by decide), trivial⟩ ?_
      rcases iteS h with ⟨b213_4, h⟩ | ⟨b213_4, h⟩
      · rcases iteS h with ⟨b213_e0, h⟩ | ⟨b213_e0, h⟩
        · refine At.step hm ht ⟨[(4, .b true)], [true], [], [1, 2, 7, 9, 10, 11, 12], [0, 1]⟩ 6 ⟨[(1, .one (.c (.d (.int .i64 from_)))), (2, .one (.c (.d (.int .i64 to_)))), (7, .one (.c (.own 0 (.pair (.int .i64) (.pair (.int .i64) (.pair (.int .i64) (.slice (.int .u8))))) out))), (9, .one (.c (.ptr 1 0))), (10, .one (.c (.d (.sl (.pair (.int .i64) (.pair (.int .i64) (.pair (.int .i64) (.slice (.int .u8))))) t10)))), (11, .one (.c (.d (.int .i64 t11)))), (12, .one (.c (.d (.int .i64 t12))))], [(0, some ⟨82, 0⟩)], [(1, [.d (.int .i64 ((t10.getD t12.toNat (0, (0, (0, [])))).1)), .d (.int .i64 (((t10.getD t12.toNat (0, (0, (0, [])))).2).1)), .d (.int .i64 ((((t10.getD t12.toNat (0, (0, (0, [])))).2).2).1)), .d (.sl (.int .u8) ((((t10.getD t12.toNat (0, (0, (0, [])))).2).2).2))])], 2⟩ [(decide ((((t10.getD t12.toNat (0, (0, (0, [])))).1) : Int) ≥ from_)) = true, (decide ((((t10.getD t12.toNat (0, (0, (0, [])))).1) : Int) < to_)) = true] (by kernel_rfl) ⟨b213_4, b213_e0, trivial⟩ ?_
          obtain ⟨r214_0, cr214_0, h⟩ := bindS h
          obtain ⟨g214_1, h⟩ := ifS h
          refine At.step hm ht ⟨[(2, .call [] [] (f95_capture_copied_out r214_0))], [], [], [1, 2, 7, 10, 11, 12], [7]⟩ 7 ⟨[(1, .one (.c (.d (.int .i64 from_)))), (2, .one (.c (.d (.int .i64 to_)))), (7, .one (.c (.own 0 (.pair (.int .i64) (.pair (.int .i64) (.pair (.int .i64) (.slice (.int .u8))))) (out ++ [r214_0])))), (10, .one (.c (.d (.sl (.pair (.int .i64) (.pair (.int .i64) (.pair (.int .i64) (.slice (.int .u8))))) t10)))), (11, .one (.c (.d (.int .i64 t11)))), (12, .one (.c (.d (.int .i64 t12))))], [(0, some ⟨82, 0⟩)], [], 1⟩ [FnOK Go.Proofs.Try.prog 95 (f95_capture_copied_in ((t10.getD t12.toNat (0, (0, (0, [])))).1) (((t10.getD t12.toNat (0, (0, (0, [])))).2).1) ((((t10.getD t12.toNat (0, (0, (0, [])))).2).2).1) ((((t10.getD t12.toNat (0, (0, (0, [])))).2).2).2)) (f95_capture_copied_out r214_0), out.length + [r214_0].length ≤ maxLen ∧ (out.length + [r214_0].length) * 48 ≤ 140737488355328] (by kernel_rfl) ⟨(f95_capture_copied_ok ((t10.getD t12.toNat (0, (0, (0, [])))).1) (((t10.getD t12.toNat (0, (0, (0, [])))).2).1) ((((t10.getD t12.toNat (0, (0, (0, [])))).2).2).1) ((((t10.getD t12.toNat (0, (0, (0, [])))).2).2).2) r214_0 cr214_0), g214_1, trivial⟩ ?_
          refine At.step hm ht ⟨[], [], [], [1, 2, 7, 10, 11, 12], [0]⟩ 3 ⟨[(1, .one (.c (.d (.int .i64 from_)))), (2, .one (.c (.d (.int .i64 to_)))), (7, .one (.c (.own 0 (.pair (.int .i64) (.pair (.int .i64) (.pair (.int .i64) (.slice (.int .u8))))) (out ++ [r214_0])))), (10, .one (.c (.d (.sl (.pair (.int .i64) (.pair (.int .i64) (.pair (.int .i64) (.slice (.int .u8))))) t10)))), (11, .one (.c (.d (.int .i64 t11)))), (12, .one (.c (.d (.int .i64 (IntKind.wrap .i64 (t12 + 1))))))], [(0, some ⟨82, 0⟩)], [], 1⟩ [] (by kernel_rfl) trivial ?_
          exact ih from_ to_ (out ++ [r214_0]) t10 t11 (IntKind.wrap .i64 (t12 + 1)) w h o hk
        · refine At.step hm ht ⟨[(4, .b true)], [false], [], [1, 2, 7, 10, 11, 12], [0]⟩ 7 ⟨[(1, .one (.c (.d (.int .i64 from_)))), (2, .one (.c (.d (.int .i64 to_)))), (7, .one (.c (.own 0 (.pair (.int .i64) (.pair (.int .i64) (.pair (.int .i64) (.slice (.int .u8))))) out))), (10, .one (.c (.d (.sl (.pair (.int .i64) (.pair (.int .i64) (.pair (.int .i64) (.slice (.int .u8))))) t10)))), (11, .one (.c (.d (.int .i64 t11)))), (12, .one (.c (.d (.int .i64 t12))))], [(0, some ⟨82, 0⟩)], [], 1⟩ [(decide ((((t10.getD t12.toNat (0, (0, (0, [])))).1) : Int) ≥ from_)) = true, (decide ((((t10.getD t12.toNat (0, (0, (0, [])))).1) : Int) < to_)) = false] (by kernel_rfl) ⟨b213_4, b213_e0, trivial⟩ ?_
          refine At.step hm ht ⟨[], [], [], [1, 2, 7, 10, 11, 12], [0]⟩ 3 ⟨[(1, .one (.c (.d (.int .i64 from_)))), (2, .one (.c (.d (.int .i64 to_)))), (7, .one (.c (.own 0 (.pair (.int .i64) (.pair (.int .i64) (.pair (.int .i64) (.slice (.int .u8))))) out))), (10, .one (.c (.d (.sl (.pair (.int .i64) (.pair (.int .i64) (.pair (.int .i64) (.slice (.int .u8))))) t10)))), (11, .one (.c (.d (.int .i64 t11)))), (12, .one (.c (.d (.int .i64 (IntKind.wrap .i64 (t12 + 1))))))], [(0, some ⟨82, 0⟩)], [], 1⟩ [] (by kernel_rfl) trivial ?_
          exact ih from_ to_ out t10 t11 (IntKind.wrap .i64 (t12 + 1)) w h o hk
      · refine At.step hm ht ⟨[(4, .b false)], [false], [], [1, 2, 7, 10, 11, 12], [0]⟩ 7 ⟨[(1, .one (.c (.d (.int .i64 from_)))), (2, .one (.c (.d (.int .i64 to_)))), (7, .one (.c (.own 0 (.pair (.int .i64) (.pair (.int .i64) (.pair (.int .i64) (.slice (.int .u8))))) out))), (10, .one (.c (.d (.sl (.pair (.int .i64) (.pair (.int .i64) (.pair (.int .i64) (.slice (.int .u8))))) t10)))), (11, .one (.c (.d (.int .i64 t11)))), (12, .one (.c (.d (.int .i64 t12))))], [(0, some ⟨82, 0⟩)], [], 1⟩ [(decide ((((t10.getD t12.toNat (0, (0, (0, [])))).1) : Int) ≥ from_)) = false, false = false] (by kernel_rfl) ⟨b213_4, rfl, trivial⟩ ?_
        refine At.step hm ht ⟨[], [], [], [1, 2, 7, 10, 11, 12], [0]⟩ 3 ⟨[(1, .one (.c (.d (.int .i64 from_)))), (2, .one (.c (.d (.int .i64 to_)))), (7, .one (.c (.own 0 (.pair (.int .i64) (.pair (.int .i64) (.pair (.int .i64) (.slice (.int .u8))))) out))), (10, .one (.c (.d (.sl (.pair (.int .i64) (.pair (.int .i64) (.pair (.int .i64) (.slice (.int .u8))))) t10)))), (11, .one (.c (.d (.int .i64 t11)))), (12, .one (.c (.d (.int .i64 (IntKind.wrap .i64 (t12 + 1))))))], [(0, some ⟨82, 0⟩)], [], 1⟩ [] (by kernel_rfl) trivial ?_
        exact ih from_ to_ out t10 t11 (IntKind.wrap .i64 (t12 + 1)) w h o hk
    · refine At.step hm ht ⟨[], [false], [], [7], [0]⟩ 8 ⟨[(7, .one (.c (.own 0 (.pair (.int .i64) (.pair (.int .i64) (.pair (.int .i64) (.slice (.int .u8))))) out)))], [(0, some ⟨82, 0⟩)], [], 1⟩ [(decide ((t12 : Int) < t11)) = false] (by kernel_rfl) ⟨b211_e0, trivial⟩ ?_
      have h := Option.some.inj h
      subst h
      exact hk
def f43_capture_Between (n : Nat) (l : List (Int × Int × Int × List Int)) (from_ : Int) (to_ : Int) : Option (List (Int × Int × Int × List Int)) :=
  (f43_capture_Between_L3 n from_ to_ [] l ((l.length : Nat) : Int) 0).bind fun w218 =>
  some w218
theorem f43_capture_Between_ok (n : Nat) (l : List (Int × Int × Int × List Int)) (from_ : Int) (to_ : Int) (r : List (Int × Int × Int × List Int)) (h : f43_capture_Between n l from_ to_ = some r) : FnOK Go.Proofs.Try.prog 43 (f43_capture_Between_in l from_ to_) (f43_capture_Between_out r) := by
  unfold f43_capture_Between at h
  refine At.fn (r := 0) Go.Proofs.Try.func43 rfl (by kernel_rfl) rfl rfl (by kernel_rfl) ?_
  show At Go.Proofs.Try.prog Go.Proofs.Try.f43 0 0 ⟨[(0, .one (.c (.d (.sl (.pair (.int .i64) (.pair (.int .i64) (.pair (.int .i64) (.slice (.int .u8))))) l)))), (1, .one (.c (.d (.int .i64 from_)))), (2, .one (.c (.d (.int .i64 to_))))], [], [], 0⟩ _
  refine At.step hm ht ⟨[], [], [], [0, 1, 2], []⟩ 1 ⟨[(0, .one (.c (.d (.sl (.pair (.int .i64) (.pair (.int .i64) (.pair (.int .i64) (.slice (.int .u8))))) l)))), (1, .one (.c (.d (.int .i64 from_)))), (2, .one (.c (.d (.int .i64 to_))))], [], [], 0⟩ [] (by kernel_rfl) trivial ?_
  refine At.step hm ht ⟨[], [], [], [0, 1, 2, 7], []⟩ 2 ⟨[(0, .one (.c (.d (.sl (.pair (.int .i64) (.pair (.int .i64) (.pair (.int .i64) (.slice (.int .u8))))) l)))), (1, .one (.c (.d (.int .i64 from_)))), (2, .one (.c (.d (.int .i64 to_)))), (7, .one (.c (.d (.sl .unit []))))], [], [], 0⟩ [] (by kernel_rfl) trivial ?_
  refine At.step hm ht ⟨[], [], [.nil false 7 0 (.pair (.int .i64) (.pair (.int .i64) (.pair (.int .i64) (.slice (.int .u8))))) (some 82)], [1, 2, 7, 10, 11, 12], [3]⟩ 3 ⟨[(1, .one (.c (.d (.int .i64 from_)))), (2, .one (.c (.d (.int .i64 to_)))), (7, .one (.c (.own 0 (.pair (.int .i64) (.pair (.int .i64) (.pair (.int .i64) (.slice (.int .u8))))) []))), (10, .one (.c (.d (.sl (.pair (.int .i64) (.pair (.int .i64) (.pair (.int .i64) (.slice (.int .u8))))) l)))), (11, .one (.c (.d (.int .i64 ((l.length : Nat) : Int))))), (12, .one (.c (.d (.int .i64 0))))], [(0, some ⟨82, 0⟩)], [], 1⟩ [] (by kernel_rfl) trivial ?_
  obtain ⟨w218, cw218, h⟩ := bindS h
  refine f43_capture_Between_L3_ok n from_ to_ [] l ((l.length : Nat) : Int) 0 w218 cw218 _ ?_
  show At Go.Proofs.Try.prog Go.Proofs.Try.f43 0 8 ⟨[(7, .one (.c (.own 0 (.pair (.int .i64) (.pair (.int .i64) (.pair (.int .i64) (.slice (.int .u8))))) w218)))], [(0, some ⟨82, 0⟩)], [], 1⟩ _
  have h := Option.some.inj h
  subst h
  exact At.fin hm ht ⟨[], [], [], [6], [0]⟩ [] (by kernel_rfl) trivial
/-! brougham/broughamlaw34.same -/
def f30_broughamlaw34_same_in (a : List (Int × Int × Int × ByteArray)) (b : List (Int × Int × Int × ByteArray)) : Inn := ⟨[.c (.d (.sl (.pair (.int .i64) (.pair (.int .i64) (.pair (.int .i64) .str))) a)), .c (.d (.sl (.pair (.int .i64) (.pair (.int .i64) (.pair (.int .i64) .str))) b))], [], [], 0⟩
def f30_broughamlaw34_same_out (r : Bool) : Out := ⟨.one (.c (.d (.bool r))), [], [], 0⟩
def f30_broughamlaw34_same_L4 : Nat → (List (Int × Int × Int × ByteArray)) → (List (Int × Int × Int × ByteArray)) → Int → Option ((Bool) ⊕ (Unit))
  | 0, _, _, _ => none
  | n + 1, a, b, i =>
    if (decide ((i : Int) < ((a.length : Nat) : Int))) = true then
      if (0 : Int) ≤ i ∧ i < (((a).length : Nat) : Int) then
      if (0 : Int) ≤ i ∧ i < (((b).length : Nat) : Int) then
      if (!(((((a.getD i.toNat (0, (0, (0, ByteArray.empty)))).1) : Int) == ((b.getD i.toNat (0, (0, (0, ByteArray.empty)))).1)) && ((((((a.getD i.toNat (0, (0, (0, ByteArray.empty)))).2).1) : Int) == (((b.getD i.toNat (0, (0, (0, ByteArray.empty)))).2).1)) && (((((((a.getD i.toNat (0, (0, (0, ByteArray.empty)))).2).2).1) : Int) == ((((b.getD i.toNat (0, (0, (0, ByteArray.empty)))).2).2).1)) && (((((a.getD i.toNat (0, (0, (0, ByteArray.empty)))).2).2).2).toList == ((((b.getD i.toNat (0, (0, (0, ByteArray.empty)))).2).2).2).toList))))) = true then
        some (.inl false)
      else
        f30_broughamlaw34_same_L4 n a b (IntKind.wrap .i64 (i + 1))
      else none
      else none
    else
      some (.inr ())
def f30_broughamlaw34_same_L4_k (w : (Bool) ⊕ (Unit)) (o : Out) : Prop := match w with
  | .inl e => o = f30_broughamlaw34_same_out e
  | .inr e => At Go.Proofs.Try.prog Go.Proofs.Try.f30 0 8 ⟨[], [], [], 0⟩ o
theorem f30_broughamlaw34_same_L4_ok (n : Nat) : ∀ (a : List (Int × Int × Int × ByteArray)) (b : List (Int × Int × Int × ByteArray)) (i : Int) (w : (Bool) ⊕ (Unit)) (h : f30_broughamlaw34_same_L4 n a b i = some w) (o : Out) (hk : f30_broughamlaw34_same_L4_k w o), At Go.Proofs.Try.prog Go.Proofs.Try.f30 0 4 ⟨[(0, .one (.c (.d (.sl (.pair (.int .i64) (.pair (.int .i64) (.pair (.int .i64) .str))) a)))), (1, .one (.c (.d (.sl (.pair (.int .i64) (.pair (.int .i64) (.pair (.int .i64) .str))) b)))), (5, .one (.c (.d (.int .i64 i))))], [], [], 0⟩ o := by
  induction n with
  | zero => intro a b i w h; rw [f30_broughamlaw34_same_L4] at h; cases h
  | succ n ih =>
    intro a b i w h o hk
    rw [f30_broughamlaw34_same_L4] at h
    rcases iteS h with ⟨b225_e0, h⟩ | ⟨b225_e0, h⟩
    · refine At.step hm ht ⟨[], [true], [], [0, 1, 5], []⟩ 6 ⟨[(0, .one (.c (.d (.sl (.pair (.int .i64) (.pair (.int .i64) (.pair (.int .i64) .str))) a)))), (1, .one (.c (.d (.sl (.pair (.int .i64) (.pair (.int .i64) (.pair (.int .i64) .str))) b)))), (5, .one (.c (.d (.int .i64 i))))], [], [], 0⟩ [(decide ((i : Int) < ((a.length : Nat) : Int))) = true] (by kernel_rfl) ⟨b225_e0, trivial⟩ ?_
      obtain ⟨g226_0, h⟩ := ifS h
      obtain ⟨g226_1, h⟩ := ifS h
      rcases iteS h with ⟨b226_e0, h⟩ | ⟨b226_e0, h⟩
      · refine At.step hm ht ⟨[], [true], [], [], []⟩ 7 ⟨[], [], [], 0⟩ [(0 : Int) ≤ i ∧ i < (((a).length : Nat) : Int), (0 : Int) ≤ i ∧ i < (((b).length : Nat) : Int), (!(((((a.getD i.toNat (0, (0, (0, ByteArray.empty)))).1) : Int) == ((b.getD i.toNat (0, (0, (0, ByteArray.empty)))).1)) && ((((((a.getD i.toNat (0, (0, (0, ByteArray.empty)))).2).1) : Int) == (((b.getD i.toNat (0, (0, (0, ByteArray.empty)))).2).1)) && (((((((a.getD i.toNat (0, (0, (0, ByteArray.empty)))).2).2).1) : Int) == ((((b.getD i.toNat (0, (0, (0, ByteArray.empty)))).2).2).1)) && (((((a.getD i.toNat (0, (0, (0, ByteArray.empty)))).2).2).2).toList == ((((b.getD i.toNat (0, (0, (0, ByteArray.empty)))).2).2).2).toList))))) = true] (by kernel_rfl) ⟨g226_0, g226_1, b226_e0, trivial⟩ ?_
        have h := Option.some.inj h
        subst h
        have hk : o = f30_broughamlaw34_same_out false := hk
        subst hk
        exact At.fin hm ht ⟨[], [], [], [4], []⟩ [] (by kernel_rfl) trivial
      · refine At.step hm ht ⟨[], [false], [], [0, 1, 5], []⟩ 5 ⟨[(0, .one (.c (.d (.sl (.pair (.int .i64) (.pair (.int .i64) (.pair (.int .i64) .str))) a)))), (1, .one (.c (.d (.sl (.pair (.int .i64) (.pair (.int .i64) (.pair (.int .i64) .str))) b)))), (5, .one (.c (.d (.int .i64 i))))], [], [], 0⟩ [(0 : Int) ≤ i ∧ i < (((a).length : Nat) : Int), (0 : Int) ≤ i ∧ i < (((b).length : Nat) : Int), (!(((((a.getD i.toNat (0, (0, (0, ByteArray.empty)))).1) : Int) == ((b.getD i.toNat (0, (0, (0, ByteArray.empty)))).1)) && ((((((a.getD i.toNat (0, (0, (0, ByteArray.empty)))).2).1) : Int) == (((b.getD i.toNat (0, (0, (0, ByteArray.empty)))).2).1)) && (((((((a.getD i.toNat (0, (0, (0, ByteArray.empty)))).2).2).1) : Int) == ((((b.getD i.toNat (0, (0, (0, ByteArray.empty)))).2).2).1)) && (((((a.getD i.toNat (0, (0, (0, ByteArray.empty)))).2).2).2).toList == ((((b.getD i.toNat (0, (0, (0, ByteArray.empty)))).2).2).2).toList))))) = false] (by kernel_rfl) ⟨g226_0, g226_1, b226_e0, trivial⟩ ?_
        refine At.step hm ht ⟨[], [], [], [0, 1, 5], []⟩ 4 ⟨[(0, .one (.c (.d (.sl (.pair (.int .i64) (.pair (.int .i64) (.pair (.int .i64) .str))) a)))), (1, .one (.c (.d (.sl (.pair (.int .i64) (.pair (.int .i64) (.pair (.int .i64) .str))) b)))), (5, .one (.c (.d (.int .i64 (IntKind.wrap .i64 (i + 1))))))], [], [], 0⟩ [] (by kernel_rfl) trivial ?_
        exact ih a b (IntKind.wrap .i64 (i + 1)) w h o hk
    · refine At.step hm ht ⟨[], [false], [], [], []⟩ 8 ⟨[], [], [], 0⟩ [(decide ((i : Int) < ((a.length : Nat) : Int))) = false] (by kernel_rfl) ⟨b225_e0, trivial⟩ ?_
      have h := Option.some.inj h
      subst h
      exact hk
def f30_broughamlaw34_same (n : Nat) (a : List (Int × Int × Int × ByteArray)) (b : List (Int × Int × Int × ByteArray)) : Option (Bool) :=
  if ((((a.length : Nat) : Int) : Int) != ((b.length : Nat) : Int)) = true then
    some false
  else
    (f30_broughamlaw34_same_L4 n a b 0).bind fun w229 =>
    match w229 with
    | .inl e230 =>
      some e230
    | .inr e231 =>
      some true
theorem f30_broughamlaw34_same_ok (n : Nat) (a : List (Int × Int × Int × ByteArray)) (b : List (Int × Int × Int × ByteArray)) (r : Bool) (h : f30_broughamlaw34_same n a b = some r) : FnOK Go.Proofs.Try.prog 30 (f30_broughamlaw34_same_in a b) (f30_broughamlaw34_same_out r) := by
  unfold f30_broughamlaw34_same at h
  refine At.fn (r := 0) Go.Proofs.Try.func30 rfl (by kernel_rfl) rfl rfl (by kernel_rfl) ?_
  show At Go.Proofs.Try.prog Go.Proofs.Try.f30 0 0 ⟨[(0, .one (.c (.d (.sl (.pair (.int .i64) (.pair (.int .i64) (.pair (.int .i64) .str))) a)))), (1, .one (.c (.d (.sl (.pair (.int .i64) (.pair (.int .i64) (.pair (.int .i64) .str))) b))))], [], [], 0⟩ _
  refine At.step hm ht ⟨[], [], [], [0, 1], []⟩ 1 ⟨[(0, .one (.c (.d (.sl (.pair (.int .i64) (.pair (.int .i64) (.pair (.int .i64) .str))) a)))), (1, .one (.c (.d (.sl (.pair (.int .i64) (.pair (.int .i64) (.pair (.int .i64) .str))) b))))], [], [], 0⟩ [] (by kernel_rfl) trivial ?_
  rcases iteS h with ⟨b222_e0, h⟩ | ⟨b222_e0, h⟩
  · refine At.step hm ht ⟨[], [true], [], [], []⟩ 2 ⟨[], [], [], 0⟩ [((((a.length : Nat) : Int) : Int) != ((b.length : Nat) : Int)) = true] (by kernel_rfl) ⟨b222_e0, trivial⟩ ?_
    have h := Option.some.inj h
    subst h
    exact At.fin hm ht ⟨[], [], [], [4], []⟩ [] (by kernel_rfl) trivial
  · refine At.step hm ht ⟨[], [false], [], [0, 1], []⟩ 3 ⟨[(0, .one (.c (.d (.sl (.pair (.int .i64) (.pair (.int .i64) (.pair (.int .i64) .str))) a)))), (1, .one (.c (.d (.sl (.pair (.int .i64) (.pair (.int .i64) (.pair (.int .i64) .str))) b))))], [], [], 0⟩ [((((a.length : Nat) : Int) : Int) != ((b.length : Nat) : Int)) = false] (by kernel_rfl) ⟨b222_e0, trivial⟩ ?_
    refine At.step hm ht ⟨[], [], [], [0, 1, 5], []⟩ 4 ⟨[(0, .one (.c (.d (.sl (.pair (.int .i64) (.pair (.int .i64) (.pair (.int .i64) .str))) a)))), (1, .one (.c (.d (.sl (.pair (.int .i64) (.pair (.int .i64) (.pair (.int .i64) .str))) b)))), (5, .one (.c (.d (.int .i64 0))))], [], [], 0⟩ [] (by kernel_rfl) trivial ?_
    obtain ⟨w229, cw229, h⟩ := bindS h
    refine f30_broughamlaw34_same_L4_ok n a b 0 w229 cw229 _ ?_
    rcases w229 with e230 | e231
    · have h := Option.some.inj h
      subst h
      rfl
    · show At Go.Proofs.Try.prog Go.Proofs.Try.f30 0 8 ⟨[], [], [], 0⟩ _
      have h := Option.some.inj h
      subst h
      exact At.fin hm ht ⟨[], [], [], [4], []⟩ [] (by kernel_rfl) trivial
/-! brougham/capture.Right -/
def f23_capture_Right_in (l : List (Int × Int × Int × List Int)) : Inn := ⟨[.c (.d (.sl (.pair (.int .i64) (.pair (.int .i64) (.pair (.int .i64) (.slice (.int .u8))))) l))], [], [], 0⟩
def f23_capture_Right_out (r : Bool) : Out := ⟨.one (.c (.d (.bool r))), [], [], 0⟩
def f23_capture_Right_L5 : Nat → Int → (List (Int × Int × Int × List Int)) → Int → Int → Option ((Bool) ⊕ (Unit))
  | 0, _, _, _, _ => none
  | n + 1, last, t9, t10, t11 =>
    if (decide ((t11 : Int) < t10)) = true then
      if (0 : Int) ≤ t11 ∧ t11 < (((t9).length : Nat) : Int) then
      if (decide ((((t9.getD t11.toNat (0, (0, (0, [])))).1) : Int) < last)) = true then
        some (.inl false)
      else
        if (decide ((((t9.getD t11.toNat (0, (0, (0, [])))).1) : Int) ≥ 2147483648)) = true then
          some (.inl false)
        else
          if (decide (((((t9.getD t11.toNat (0, (0, (0, [])))).2).1) : Int) < 0)) = true then
            some (.inl false)
          else
            if (decide (((((t9.getD t11.toNat (0, (0, (0, [])))).2).1) : Int) > 1)) = true then
              some (.inl false)
            else
              if (decide ((((((t9.getD t11.toNat (0, (0, (0, [])))).2).2).1) : Int) < 0)) = true then
                some (.inl false)
              else
                if (decide ((((((t9.getD t11.toNat (0, (0, (0, [])))).2).2).1) : Int) ≥ 4)) = true then
                  some (.inl false)
                else
                  if (decide ((((((((t9.getD t11.toNat (0, (0, (0, [])))).2).2).2).length : Nat) : Int) : Int) > 2048)) = true then
                    some (.inl false)
                  else
                    f23_capture_Right_L5 n ((t9.getD t11.toNat (0, (0, (0, [])))).1) t9 t10 (IntKind.wrap .i64 (t11 + 1))
      else none
    else
      some (.inr ())
def f23_capture_Right_L5_k (w : (Bool) ⊕ (Unit)) (o : Out) : Prop := match w with
  | .inl e => o = f23_capture_Right_out e
  | .inr e => At Go.Proofs.Try.prog Go.Proofs.Try.f23 0 11 ⟨[], [], [], 0⟩ o
theorem f23_capture_Right_L5_ok (n : Nat) : ∀ (last : Int) (t9 : List (Int × Int × Int × List Int)) (t10 : Int) (t11 : Int) (w : (Bool) ⊕ (Unit)) (h : f23_capture_Right_L5 n last t9 t10 t11 = some w) (o : Out) (hk : f23_capture_Right_L5_k w o), At Go.Proofs.Try.prog Go.Proofs.Try.f23 0 5 ⟨[(3, .one (.c (.d (.int .i64 last)))), (9, .one (.c (.d (.sl (.pair (.int .i64) (.pair (.int .i64) (.pair (.int .i64) (.slice (.int .u8))))) t9)))), (10, .one (.c (.d (.int .i64 t10)))), (11, .one (.c (.d (.int .i64 t11))))], [], [], 0⟩ o := by
  induction n with
  | zero => intro last t9 t10 t11 w h; rw [f23_capture_Right_L5] at h; cases h
  | succ n ih =>
    intro last t9 t10 t11 w h o hk
    rw [f23_capture_Right_L5] at h
    rcases iteS h with ⟨b242_e0, h⟩ | ⟨b242_e0, h⟩
    · refine At.step hm ht ⟨[], [true], [], [3, 9, 10, 11], []⟩ 6 ⟨[(3, .one (.c (.d (.int .i64 last)))), (9, .one (.c (.d (.sl (.pair (.int .i64) (.pair (.int .i64) (.pair (.int .i64) (.slice (.int .u8))))) t9)))), (10, .one (.c (.d (.int .i64 t10)))), (11, .one (.c (.d (.int .i64 t11))))], [], [], 0⟩ [(decide ((t11 : Int) < t10)) = true] (by kernel_rfl) ⟨b242_e0, trivial⟩ ?_
      obtain ⟨g243_0, h⟩ := ifS h
      refine At.step hm ht ⟨[], [], [], [3, 5, 9, 10, 11], [2]⟩ 7 ⟨[(3, .one (.c (.d (.int .i64 last)))), (5, .one (.c (.ptr 0 0))), (9, .one (.c (.d (.sl (.pair (.int .i64) (.pair (.int .i64) (.pair (.int .i64) (.slice (.int .u8))))) t9)))), (10, .one (.c (.d (.int .i64 t10)))), (11, .one (.c (.d (.int .i64 t11))))], [], [(0, [.d (.int .i64 ((t9.getD t11.toNat (0, (0, (0, [])))).1)), .d (.int .i64 (((t9.getD t11.toNat (0, (0, (0, [])))).2).1)), .d (.int .i64 ((((t9.getD t11.toNat (0, (0, (0, [])))).2).2).1)), .d (.sl (.int .u8) ((((t9.getD t11.toNat (0, (0, (0, [])))).2).2).2))])], 1⟩ [(0 : Int) ≤ t11 ∧ t11 < (((t9).length : Nat) : Int), 0 + 4 ≤ 4] (by kernel_rfl) ⟨g243_0, (by decide), trivial⟩ ?_
      rcases iteS h with ⟨b244_4, h⟩ | ⟨b244_4, h⟩
      · refine At.step hm ht ⟨[(4, .b true)], [true], [], [], []⟩ 8 ⟨[], [], [], 0⟩ [(decide ((((t9.getD t11.toNat (0, (0, (0, [])))).1) : Int) < last)) = true, true = true] (by kernel_rfl) ⟨b244_4, rfl, trivial⟩ ?_
        have h := Option.some.inj h
        subst h
        have hk : o = f23_capture_Right_out false := hk
        subst hk
        exact At.fin hm ht ⟨[], [], [], [2], []⟩ [] (by kernel_rfl) trivial
      · rcases iteS h with ⟨b244_9, h⟩ | ⟨b244_9, h⟩
        · refine At.step hm ht ⟨[(4, .b false), (9, .b true)], [true], [], [], []⟩ 8 ⟨[], [], [], 0⟩ [(decide ((((t9.getD t11.toNat (0, (0, (0, [])))).1) : Int) < last)) = false, (decide ((((t9.getD t11.toNat (0, (0, (0, [])))).1) : Int) ≥ 2147483648)) = true, true = true] (by kernel_rfl) ⟨b244_4, b244_9, rfl, trivial⟩ ?_
          have h := Option.some.inj h
          subst h
          have hk : o = f23_capture_Right_out false := hk
          subst hk
          exact At.fin hm ht ⟨[], [], [], [2], []⟩ [] (by kernel_rfl) trivial
        · rcases iteS h with ⟨b244_14, h⟩ | ⟨b244_14, h⟩
          · refine At.step hm ht ⟨[(4, .b false), (9, .b false), (14, .b true)], [true], [], [], []⟩ 8 ⟨[], [], [], 0⟩ [(decide ((((t9.getD t11.toNat (0, (0, (0, [])))).1) : Int) < last)) = false, (decide ((((t9.getD t11.toNat (0, (0, (0, [])))).1) : Int) ≥ 2147483648)) = false, (decide (((((t9.getD t11.toNat (0, (0, (0, [])))).2).1) : Int) < 0)) = true, true = true] (by kernel_rfl) ⟨b244_4, b244_9, b244_14, rfl, trivial⟩ ?_
            have h := Option.some.inj h
            subst h
            have hk : o = f23_capture_Right_out false := hk
            subst hk
            exact At.fin hm ht ⟨[], [], [], [2], []⟩ [] (by kernel_rfl) trivial
          · rcases iteS h with ⟨b244_19, h⟩ | ⟨b244_19, h⟩
            · refine At.step hm ht ⟨[(4, .b false), (9, .b false), (14, .b false), (19, .b true)], [true], [], [], []⟩ 8 ⟨[], [], [], 0⟩ [(decide ((((t9.getD t11.toNat (0, (0, (0, [])))).1) : Int) < last)) = false, (decide ((((t9.getD t11.toNat (0, (0, (0, [])))).1) : Int) ≥ 2147483648)) = false, (decide (((((t9.getD t11.toNat (0, (0, (0, [])))).2).1) : Int) < 0)) = false, (decide (((((t9.getD t11.toNat (0, (0, (0, [])))).2).1) : Int) > 1)) = true, true = true] (by kernel_rfl) ⟨b244_4, b244_9, b244_14, b244_19, rfl, trivial⟩ ?_
              have h := Option.some.inj h
              subst h
              have hk : o = f23_capture_Right_out false := hk
              subst hk
              exact At.fin hm ht ⟨[], [], [], [2], []⟩ [] (by kernel_rfl) trivial
            · rcases iteS h with ⟨b244_24, h⟩ | ⟨b244_24, h⟩
              · refine At.step hm ht ⟨[(4, .b false), (9, .b false), (14, .b false), (19, .b false), (24, .b true)], [true], [], [], []⟩ 8 ⟨[], [], [], 0⟩ [(decide ((((t9.getD t11.toNat (0, (0, (0, [])))).1) : Int) < last)) = false, (decide ((((t9.getD t11.toNat (0, (0, (0, [])))).1) : Int) ≥ 2147483648)) = false, (decide (((((t9.getD t11.toNat (0, (0, (0, [])))).2).1) : Int) < 0)) = false, (decide (((((t9.getD t11.toNat (0, (0, (0, [])))).2).1) : Int) > 1)) = false, (decide ((((((t9.getD t11.toNat (0, (0, (0, [])))).2).2).1) : Int) < 0)) = true, true = true] (by kernel_rfl) ⟨b244_4, b244_9, b244_14, b244_19, b244_24, rfl, trivial⟩ ?_
                have h := Option.some.inj h
                subst h
                have hk : o = f23_capture_Right_out false := hk
                subst hk
                exact At.fin hm ht ⟨[], [], [], [2], []⟩ [] (by kernel_rfl) trivial
              · rcases iteS h with ⟨b244_29, h⟩ | ⟨b244_29, h⟩
                · refine At.step hm ht ⟨[(4, .b false), (9, .b false), (14, .b false), (19, .b false), (24, .b false), (29, .b true)], [true], [], [], []⟩ 8 ⟨[], [], [], 0⟩ [(decide ((((t9.getD t11.toNat (0, (0, (0, [])))).1) : Int) < last)) = false, (decide ((((t9.getD t11.toNat (0, (0, (0, [])))).1) : Int) ≥ 2147483648)) = false, (decide (((((t9.getD t11.toNat (0, (0, (0, [])))).2).1) : Int) < 0)) = false, (decide (((((t9.getD t11.toNat (0, (0, (0, [])))).2).1) : Int) > 1)) = false, (decide ((((((t9.getD t11.toNat (0, (0, (0, [])))).2).2).1) : Int) < 0)) = false, (decide ((((((t9.getD t11.toNat (0, (0, (0, [])))).2).2).1) : Int) ≥ 4)) = true, true = true] (by kernel_rfl) ⟨b244_4, b244_9, b244_14, b244_19, b244_24, b244_29, rfl, trivial⟩ ?_
                  have h := Option.some.inj h
                  subst h
                  have hk : o = f23_capture_Right_out false := hk
                  subst hk
                  exact At.fin hm ht ⟨[], [], [], [2], []⟩ [] (by kernel_rfl) trivial
                · rcases iteS h with ⟨b244_e0, h⟩ | ⟨b244_e0, h⟩
                  · refine At.step hm ht ⟨[(4, .b false), (9, .b false), (14, .b false), (19, .b false), (24, .b false), (29, .b false)], [true], [], [], []⟩ 8 ⟨[], [], [], 0⟩ [(decide ((((t9.getD t11.toNat (0, (0, (0, [])))).1) : Int) < last)) = false, (decide ((((t9.getD t11.toNat (0, (0, (0, [])))).1) : Int) ≥ 2147483648)) = false, (decide (((((t9.getD t11.toNat (0, (0, (0, [])))).2).1) : Int) < 0)) = false, (decide (((((t9.getD t11.toNat (0, (0, (0, [])))).2).1) : Int) > 1)) = false, (decide ((((((t9.getD t11.toNat (0, (0, (0, [])))).2).2).1) : Int) < 0)) = false, (decide ((((((t9.getD t11.toNat (0, (0, (0, [])))).2).2).1) : Int) ≥ 4)) = false, (decide ((((((((t9.getD t11.toNat (0, (0, (0, [])))).2).2).2).length : Nat) : Int) : Int) > 2048)) = true] (by kernel_rfl) ⟨b244_4, b244_9, b244_14, b244_19, b244_24, b244_29, b244_e0, trivial⟩ ?_
                    have h := Option.some.inj h
                    subst h
                    have hk : o = f23_capture_Right_out false := hk
                    subst hk
                    exact At.fin hm ht ⟨[], [], [], [2], []⟩ [] (by kernel_rfl) trivial
                  · refine At.step hm ht ⟨[(4, .b false), (9, .b false), (14, .b false), (19, .b false), (24, .b false), (29, .b false)], [false], [], [5, 9, 10, 11], [0]⟩ 9 ⟨[(5, .one (.c (.ptr 0 0))), (9, .one (.c (.d (.sl (.pair (.int .i64) (.pair (.int .i64) (.pair (.int .i64) (.slice (.int .u8))))) t9)))), (10, .one (.c (.d (.int .i64 t10)))), (11, .one (.c (.d (.int .i64 t11))))], [], [(0, [.d (.int .i64 ((t9.getD t11.toNat (0, (0, (0, [])))).1)), .d (.int .i64 (((t9.getD t11.toNat (0, (0, (0, [])))).2).1)), .d (.int .i64 ((((t9.getD t11.toNat (0, (0, (0, [])))).2).2).1)), .d (.sl (.int .u8) ((((t9.getD t11.toNat (0, (0, (0, [])))).2).2).2))])], 1⟩ [(decide ((((t9.getD t11.toNat (0, (0, (0, [])))).1) : Int) < last)) = false, (decide ((((t9.getD t11.toNat (0, (0, (0, [])))).1) : Int) ≥ 2147483648)) = false, (decide (((((t9.getD t11.toNat (0, (0, (0, [])))).2).1) : Int) < 0)) = false, (decide (((((t9.getD t11.toNat (0, (0, (0, [])))).2).1) : Int) > 1)) = false, (decide ((((((t9.getD t11.toNat (0, (0, (0, [])))).2).2).1) : Int) < 0)) = false, (decide ((((((t9.getD t11.toNat (0, (0, (0, [])))).2).2).1) : Int) ≥ 4)) = false, (decide ((((((((t9.getD t11.toNat (0, (0, (0, [])))).2).2).2).length : Nat) : Int) : Int) > 2048)) = false] (by kernel_rfl) ⟨b244_4, b244_9, b244_14, b244_19, b244_24, b244_29, b244_e0, trivial⟩ ?_
                    refine At.step hm ht ⟨[], [], [], [3, 9, 10, 11], []⟩ 10 ⟨[(3, .one (.c (.d (.int .i64 ((t9.getD t11.toNat (0, (0, (0, [])))).1))))), (9, .one (.c (.d (.sl (.pair (.int .i64) (.pair (.int .i64) (.pair (.int .i64) (.slice (.int .u8))))) t9)))), (10, .one (.c (.d (.int .i64 t10)))), (11, .one (.c (.d (.int .i64 t11))))], [], [], 0⟩ [] (by kernel_rfl) trivial ?_
                    refine At.step hm ht ⟨[], [], [], [3, 9, 10, 11], []⟩ 5 ⟨[(3, .one (.c (.d (.int .i64 ((t9.getD t11.toNat (0, (0, (0, [])))).1))))), (9, .one (.c (.d (.sl (.pair (.int .i64) (.pair (.int .i64) (.pair (.int .i64) (.slice (.int .u8))))) t9)))), (10, .one (.c (.d (.int .i64 t10)))), (11, .one (.c (.d (.int .i64 (IntKind.wrap .i64 (t11 + 1))))))], [], [], 0⟩ [] (by kernel_rfl) trivial ?_
                    exact ih ((t9.getD t11.toNat (0, (0, (0, [])))).1) t9 t10 (IntKind.wrap .i64 (t11 + 1)) w h o hk
    · refine At.step hm ht ⟨[], [false], [], [], []⟩ 11 ⟨[], [], [], 0⟩ [(decide ((t11 : Int) < t10)) = false] (by kernel_rfl) ⟨b242_e0, trivial⟩ ?_
      have h := Option.some.inj h
      subst h
      exact hk
def f23_capture_Right (n : Nat) (l : List (Int × Int × Int × List Int)) : Option (Bool) :=
  if (decide ((((l.length : Nat) : Int) : Int) > 1024)) = true then
    some false
  else
    (f23_capture_Right_L5 n 0 l ((l.length : Nat) : Int) 0).bind fun w254 =>
    match w254 with
    | .inl e255 =>
      some e255
    | .inr e256 =>
      some true
theorem f23_capture_Right_ok (n : Nat) (l : List (Int × Int × Int × List Int)) (r : Bool) (h : f23_capture_Right n l = some r) : FnOK Go.Proofs.Try.prog 23 (f23_capture_Right_in l) (f23_capture_Right_out r) := by
  unfold f23_capture_Right at h
  refine At.fn (r := 0) Go.Proofs.Try.func23 rfl (by kernel_rfl) rfl rfl (by kernel_rfl) ?_
  show At Go.Proofs.Try.prog Go.Proofs.Try.f23 0 0 ⟨[(0, .one (.c (.d (.sl (.pair (.int .i64) (.pair (.int .i64) (.pair (.int .i64) (.slice (.int .u8))))) l))))], [], [], 0⟩ _
  refine At.step hm ht ⟨[], [], [], [0], []⟩ 1 ⟨[(0, .one (.c (.d (.sl (.pair (.int .i64) (.pair (.int .i64) (.pair (.int .i64) (.slice (.int .u8))))) l))))], [], [], 0⟩ [] (by kernel_rfl) trivial ?_
  rcases iteS h with ⟨b238_e0, h⟩ | ⟨b238_e0, h⟩
  · refine At.step hm ht ⟨[], [true], [], [], []⟩ 2 ⟨[], [], [], 0⟩ [(decide ((((l.length : Nat) : Int) : Int) > 1024)) = true] (by kernel_rfl) ⟨b238_e0, trivial⟩ ?_
    have h := Option.some.inj h
    subst h
    exact At.fin hm ht ⟨[], [], [], [2], []⟩ [] (by kernel_rfl) trivial
  · refine At.step hm ht ⟨[], [false], [], [0], []⟩ 3 ⟨[(0, .one (.c (.d (.sl (.pair (.int .i64) (.pair (.int .i64) (.pair (.int .i64) (.slice (.int .u8))))) l))))], [], [], 0⟩ [(decide ((((l.length : Nat) : Int) : Int) > 1024)) = false] (by kernel_rfl) ⟨b238_e0, trivial⟩ ?_
    refine At.step hm ht ⟨[], [], [], [0, 3], []⟩ 4 ⟨[(0, .one (.c (.d (.sl (.pair (.int .i64) (.pair (.int .i64) (.pair (.int .i64) (.slice (.int .u8))))) l)))), (3, .one (.c (.d (.int .i64 0))))], [], [], 0⟩ [] (by kernel_rfl) trivial ?_
    refine At.step hm ht ⟨[], [], [], [3, 9, 10, 11], []⟩ 5 ⟨[(3, .one (.c (.d (.int .i64 0)))), (9, .one (.c (.d (.sl (.pair (.int .i64) (.pair (.int .i64) (.pair (.int .i64) (.slice (.int .u8))))) l)))), (10, .one (.c (.d (.int .i64 ((l.length : Nat) : Int))))), (11, .one (.c (.d (.int .i64 0))))], [], [], 0⟩ [] (by kernel_rfl) trivial ?_
    obtain ⟨w254, cw254, h⟩ := bindS h
    refine f23_capture_Right_L5_ok n 0 l ((l.length : Nat) : Int) 0 w254 cw254 _ ?_
    rcases w254 with e255 | e256
    · have h := Option.some.inj h
      subst h
      rfl
    · show At Go.Proofs.Try.prog Go.Proofs.Try.f23 0 11 ⟨[], [], [], 0⟩ _
      have h := Option.some.inj h
      subst h
      exact At.fin hm ht ⟨[], [], [], [2], []⟩ [] (by kernel_rfl) trivial
/-! brougham/pack.W -/
def f79_pack_W_in (n_ : Int) : Inn := ⟨[.c (.d (.int .u32 n_))], [], [], 0⟩
def f79_pack_W_out (r : Int × Int) : Out := ⟨.one (.agg [.d (.int .i64 r.1), .d (.int .u64 r.2)]), [], [(0, [.d (.int .i64 r.1), .d (.int .u64 r.2)])], 1⟩
def f79_pack_W (n_ : Int) : Option (Int × Int) :=
  some (4, (IntKind.wrap .u64 n_))
theorem f79_pack_W_ok (n_ : Int) (r : Int × Int) (h : f79_pack_W n_ = some r) : FnOK Go.Proofs.Try.prog 79 (f79_pack_W_in n_) (f79_pack_W_out r) := by
  unfold f79_pack_W at h
  refine At.fn (r := 0) Go.Proofs.Try.func79 rfl (by kernel_rfl) rfl rfl (by kernel_rfl) ?_
  show At Go.Proofs.Try.prog Go.Proofs.Try.f79 0 0 ⟨[(0, .one (.c (.d (.int .u32 n_))))], [], [], 0⟩ _
  refine At.step hm ht ⟨[], [], [], [0, 2], [0]⟩ 1 ⟨[(0, .one (.c (.d (.int .u32 n_)))), (2, .one (.c (.ptr 0 0)))], [], [(0, [.d (.int .i64 0), .d (.int .u64 0)])], 1⟩ [] (by kernel_rfl) trivial ?_
  have h := Option.some.inj h
  subst h
  exact At.fin hm ht ⟨[], [], [], [2], [0]⟩ [0 + 2 ≤ 2] (by kernel_rfl) ⟨(by decide), trivial⟩
/-! brougham/pack.H -/
def f80_pack_H_in (n_ : Int) : Inn := ⟨[.c (.d (.int .u16 n_))], [], [], 0⟩
def f80_pack_H_out (r : Int × Int) : Out := ⟨.one (.agg [.d (.int .i64 r.1), .d (.int .u64 r.2)]), [], [(0, [.d (.int .i64 r.1), .d (.int .u64 r.2)])], 1⟩
def f80_pack_H (n_ : Int) : Option (Int × Int) :=
  some (2, (IntKind.wrap .u64 n_))
theorem f80_pack_H_ok (n_ : Int) (r : Int × Int) (h : f80_pack_H n_ = some r) : FnOK Go.Proofs.Try.prog 80 (f80_pack_H_in n_) (f80_pack_H_out r) := by
  unfold f80_pack_H at h
  refine At.fn (r := 0) Go.Proofs.Try.func80 rfl (by kernel_rfl) rfl rfl (by kernel_rfl) ?_
  show At Go.Proofs.Try.prog Go.Proofs.Try.f80 0 0 ⟨[(0, .one (.c (.d (.int .u16 n_))))], [], [], 0⟩ _
  refine At.step hm ht ⟨[], [], [], [0, 2], [0]⟩ 1 ⟨[(0, .one (.c (.d (.int .u16 n_)))), (2, .one (.c (.ptr 0 0)))], [], [(0, [.d (.int .i64 0), .d (.int .u64 0)])], 1⟩ [] (by kernel_rfl) trivial ?_
  have h := Option.some.inj h
  subst h
  exact At.fin hm ht ⟨[], [], [], [2], [0]⟩ [0 + 2 ≤ 2] (by kernel_rfl) ⟨(by decide), trivial⟩
/-! brougham/pack.Put -/
def f78_pack_Put_in (b : List Int) (l : List (Int × Int)) : Inn := ⟨[.c (.d (.sl (.int .u8) b)), .c (.d (.sl (.pair (.int .i64) (.int .u64)) l))], [], [], 0⟩
def f78_pack_Put_out (r : List Int) : Out := ⟨.one (.c (.own 0 (.int .u8) r)), [(0, ⟨5, 0⟩)], [], 1⟩
def f78_pack_Put_L7 : Nat → (List Int) → Int → (List (Int × Int)) → Int → Int → Int → Int → Option (List Int × (List (Int × Int)) × Int × Int)
  | 0, _, _, _, _, _, _, _ => none
  | n + 1, out, i, t11, t12, t13, f_0, f_1 =>
    if (decide ((i : Int) ≥ 0)) = true then
      if (0 : Int) ≤ (IntKind.wrap .i64 (8 * i)) then
      if out.length + [(IntKind.wrap .u8 (Int.fdiv f_1 (2 ^ (min (IntKind.wrap .i64 (8 * i)).toNat (IntKind.bits .u64)))))].length ≤ maxLen ∧ (out.length + [(IntKind.wrap .u8 (Int.fdiv f_1 (2 ^ (min (IntKind.wrap .i64 (8 * i)).toNat (IntKind.bits .u64)))))].length) * 1 ≤ 140737488355328 then
      f78_pack_Put_L7 n (out ++ [(IntKind.wrap .u8 (Int.fdiv f_1 (2 ^ (min (IntKind.wrap .i64 (8 * i)).toNat (IntKind.bits .u64)))))]) (IntKind.wrap .i64 (i - 1)) t11 t12 t13 f_0 f_1
      else none
      else none
    else
      some ((out, t11, t12, t13))
def f78_pack_Put_L7_k (e : List Int × (List (Int × Int)) × Int × Int) (o : Out) : Prop := At Go.Proofs.Try.prog Go.Proofs.Try.f78 0 10 ⟨[(5, .one (.c (.own 0 (.int .u8) e.1))), (11, .one (.c (.d (.sl (.pair (.int .i64) (.int .u64)) e.2.1)))), (12, .one (.c (.d (.int .i64 e.2.2.1)))), (13, .one (.c (.d (.int .i64 e.2.2.2))))], [(0, some ⟨5, 0⟩)], [], 1⟩ o
theorem f78_pack_Put_L7_ok (n : Nat) : ∀ (out : List Int) (i : Int) (t11 : List (Int × Int)) (t12 : Int) (t13 : Int) (f_0 : Int) (f_1 : Int) (w : List Int × (List (Int × Int)) × Int × Int) (h : f78_pack_Put_L7 n out i t11 t12 t13 f_0 f_1 = some w) (o : Out) (hk : f78_pack_Put_L7_k w o), At Go.Proofs.Try.prog Go.Proofs.Try.f78 0 7 ⟨[(5, .one (.c (.own 0 (.int .u8) out))), (7, .one (.c (.ptr 1 0))), (8, .one (.c (.d (.int .i64 i)))), (11, .one (.c (.d (.sl (.pair (.int .i64) (.int .u64)) t11)))), (12, .one (.c (.d (.int .i64 t12)))), (13, .one (.c (.d (.int .i64 t13))))], [(0, some ⟨5, 0⟩)], [(1, [.d (.int .i64 f_0), .d (.int .u64 f_1)])], 2⟩ o := by
  induction n with
  | zero => intro out i t11 t12 t13 f_0 f_1 w h; rw [f78_pack_Put_L7] at h; cases h
  | succ n ih =>
    intro out i t11 t12 t13 f_0 f_1 w h o hk
    rw [f78_pack_Put_L7] at h
    rcases iteS h with ⟨b273_e0, h⟩ | ⟨b273_e0, h⟩
    · refine At.step hm ht ⟨[], [true], [], [5, 7, 8, 11, 12, 13], [0, 1]⟩ 9 ⟨[(5, .one (.c (.own 0 (.int .u8) out))), (7, .one (.c (.ptr 1 0))), (8, .one (.c (.d (.int .i64 i)))), (11, .one (.c (.d (.sl (.pair (.int .i64) (.int .u64)) t11)))), (12, .one (.c (.d (.int .i64 t12)))), (13, .one (.c (.d (.int .i64 t13))))], [(0, some ⟨5, 0⟩)], [(1, [.d (.int .i64 f_0), .d (.int .u64 f_1)])], 2⟩ [(decide ((i : Int) ≥ 0)) = true] (by kernel_rfl) ⟨b273_e0, trivial⟩ ?_
      obtain ⟨g274_0, h⟩ := ifS h
      obtain ⟨g274_1, h⟩ := ifS h
      refine At.step hm ht ⟨[], [], [], [5, 7, 8, 11, 12, 13], [10, 1]⟩ 8 ⟨[(5, .one (.c (.own 0 (.int .u8) (out ++ [(IntKind.wrap .u8 (Int.fdiv f_1 (2 ^ (min (IntKind.wrap .i64 (8 * i)).toNat (IntKind.bits .u64)))))])))), (7, .one (.c (.ptr 1 0))), (8, .one (.c (.d (.int .i64 i)))), (11, .one (.c (.d (.sl (.pair (.int .i64) (.int .u64)) t11)))), (12, .one (.c (.d (.int .i64 t12)))), (13, .one (.c (.d (.int .i64 t13))))], [(0, some ⟨5, 0⟩)], [(1, [.d (.int .i64 f_0), .d (.int .u64 f_1)])], 2⟩ [(0 : Int) ≤ (IntKind.wrap .i64 (8 * i)), out.length + [(IntKind.wrap .u8 (Int.fdiv f_1 (2 ^ (min (IntKind.wrap .i64 (8 * i)).toNat (IntKind.bits .u64)))))].length ≤ maxLen ∧ (out.length + [(IntKind.wrap .u8 (Int.fdiv f_1 (2 ^ (min (IntKind.wrap .i64 (8 * i)).toNat (IntKind.bits .u64)))))].length) * 1 ≤ 140737488355328] (by kernel_rfl) ⟨g274_0, g274_1, trivial⟩ ?_
      refine At.step hm ht ⟨[], [], [], [5, 7, 8, 11, 12, 13], [0, 1]⟩ 7 ⟨[(5, .one (.c (.own 0 (.int .u8) (out ++ [(IntKind.wrap .u8 (Int.fdiv f_1 (2 ^ (min (IntKind.wrap .i64 (8 * i)).toNat (IntKind.bits .u64)))))])))), (7, .one (.c (.ptr 1 0))), (8, .one (.c (.d (.int .i64 (IntKind.wrap .i64 (i - 1)))))), (11, .one (.c (.d (.sl (.pair (.int .i64) (.int .u64)) t11)))), (12, .one (.c (.d (.int .i64 t12)))), (13, .one (.c (.d (.int .i64 t13))))], [(0, some ⟨5, 0⟩)], [(1, [.d (.int .i64 f_0), .d (.int .u64 f_1)])], 2⟩ [] (by kernel_rfl) trivial ?_
      exact ih (out ++ [(IntKind.wrap .u8 (Int.fdiv f_1 (2 ^ (min (IntKind.wrap .i64 (8 * i)).toNat (IntKind.bits .u64)))))]) (IntKind.wrap .i64 (i - 1)) t11 t12 t13 f_0 f_1 w h o hk
    · refine At.step hm ht ⟨[], [false], [], [5, 11, 12, 13], [0]⟩ 10 ⟨[(5, .one (.c (.own 0 (.int .u8) out))), (11, .one (.c (.d (.sl (.pair (.int .i64) (.int .u64)) t11)))), (12, .one (.c (.d (.int .i64 t12)))), (13, .one (.c (.d (.int .i64 t13))))], [(0, some ⟨5, 0⟩)], [], 1⟩ [(decide ((i : Int) ≥ 0)) = false] (by kernel_rfl) ⟨b273_e0, trivial⟩ ?_
      have h := Option.some.inj h
      subst h
      exact hk
def f78_pack_Put_L3 : Nat → (List Int) → (List (Int × Int)) → Int → Int → Option (List Int)
  | 0, _, _, _, _ => none
  | n + 1, out, t11, t12, t13 =>
    if (decide ((t13 : Int) < t12)) = true then
      if (0 : Int) ≤ t13 ∧ t13 < (((t11).length : Nat) : Int) then
      if (decide ((((t11.getD t13.toNat (0, 0)).1) : Int) < 1)) = true then
        f78_pack_Put_L3 n out t11 t12 (IntKind.wrap .i64 (t13 + 1))
      else
        if (decide ((((t11.getD t13.toNat (0, 0)).1) : Int) > 8)) = true then
          f78_pack_Put_L3 n out t11 t12 (IntKind.wrap .i64 (t13 + 1))
        else
          (f78_pack_Put_L7 n out (IntKind.wrap .i64 (((t11.getD t13.toNat (0, 0)).1) - 1)) t11 t12 t13 ((t11.getD t13.toNat (0, 0)).1) ((t11.getD t13.toNat (0, 0)).2)).bind fun w276 =>
          f78_pack_Put_L3 n w276.1 w276.2.1 w276.2.2.1 (IntKind.wrap .i64 (w276.2.2.2 + 1))
      else none
    else
      some (out)
def f78_pack_Put_L3_k (e : List Int) (o : Out) : Prop := At Go.Proofs.Try.prog Go.Proofs.Try.f78 0 11 ⟨[(5, .one (.c (.own 0 (.int .u8) e)))], [(0, some ⟨5, 0⟩)], [], 1⟩ o
theorem f78_pack_Put_L3_ok (n : Nat) : ∀ (out : List Int) (t11 : List (Int × Int)) (t12 : Int) (t13 : Int) (w : List Int) (h : f78_pack_Put_L3 n out t11 t12 t13 = some w) (o : Out) (hk : f78_pack_Put_L3_k w o), At Go.Proofs.Try.prog Go.Proofs.Try.f78 0 3 ⟨[(5, .one (.c (.own 0 (.int .u8) out))), (11, .one (.c (.d (.sl (.pair (.int .i64) (.int .u64)) t11)))), (12, .one (.c (.d (.int .i64 t12)))), (13, .one (.c (.d (.int .i64 t13))))], [(0, some ⟨5, 0⟩)], [], 1⟩ o := by
  induction n with
  | zero => intro out t11 t12 t13 w h; rw [f78_pack_Put_L3] at h; cases h
  | succ n ih =>
    intro out t11 t12 t13 w h o hk
    rw [f78_pack_Put_L3] at h
    rcases iteS h with ⟨b267_e0, h⟩ | ⟨b267_e0, h⟩
    · refine At.step hm ht ⟨[], [true], [], [5, 11, 12, 13], [0]⟩ 4 ⟨[(5, .one (.c (.own 0 (.int .u8) out))), (11, .one (.c (.d (.sl (.pair (.int .i64) (.int .u64)) t11)))), (12, .one (.c (.d (.int .i64 t12)))), (13, .one (.c (.d (.int .i64 t13))))], [(0, some ⟨5, 0⟩)], [], 1⟩ [(decide ((t13 : Int) < t12)) = true] (by kernel_rfl) ⟨b267_e0, trivial⟩ ?_
      obtain ⟨g268_0, h⟩ := ifS h
      refine At.step hm ht ⟨[], [], [], [5, 7, 11, 12, 13], [0, 3]⟩ 5 ⟨[(5, .one (.c (.own 0 (.int .u8) out))), (7, .one (.c (.ptr 1 0))), (11, .one (.c (.d (.sl (.pair (.int .i64) (.int .u64)) t11)))), (12, .one (.c (.d (.int .i64 t12)))), (13, .one (.c (.d (.int .i64 t13))))], [(0, some ⟨5, 0⟩)], [(1, [.d (.int .i64 ((t11.getD t13.toNat (0, 0)).1)), .d (.int .u64 ((t11.getD t13.toNat (0, 0)).2))])], 2⟩ [(0 : Int) ≤ t13 ∧ t13 < (((t11).length : Nat) : Int), 0 + 2 ≤ 2] (by kernel_rfl) ⟨g268_0, (by decide), trivial⟩ ?_
      rcases iteS h with ⟨b269_3, h⟩ | ⟨b269_3, h⟩
      · refine At.step hm ht ⟨[(3, .b true)], [true], [], [5, 11, 12, 13], [0]⟩ 10 ⟨[(5, .one (.c (.own 0 (.int .u8) out))), (11, .one (.c (.d (.sl (.pair (.int .i64) (.int .u64)) t11)))), (12, .one (.c (.d (.int .i64 t12)))), (13, .one (.c (.d (.int .i64 t13))))], [(0, some ⟨5, 0⟩)], [], 1⟩ [(decide ((((t11.getD t13.toNat (0, 0)).1) : Int) < 1)) = true, true = true] (by kernel_rfl) ⟨b269_3, rfl, trivial⟩ ?_
        refine At.step hm ht ⟨[], [], [], [5, 11, 12, 13], [0]⟩ 3 ⟨[(5, .one (.c (.own 0 (.int .u8) out))), (11, .one (.c (.d (.sl (.pair (.int .i64) (.int .u64)) t11)))), (12, .one (.c (.d (.int .i64 t12)))), (13, .one (.c (.d (.int .i64 (IntKind.wrap .i64 (t13 + 1))))))], [(0, some ⟨5, 0⟩)], [], 1⟩ [] (by kernel_rfl) trivial ?_
        exact ih out t11 t12 (IntKind.wrap .i64 (t13 + 1)) w h o hk
      · rcases iteS h with ⟨b269_e0, h⟩ | ⟨b269_e0, h⟩
        · refine At.step hm ht ⟨[(3, .b false)], [true], [], [5, 11, 12, 13], [0]⟩ 10 ⟨[(5, .one (.c (.own 0 (.int .u8) out))), (11, .one (.c (.d (.sl (.pair (.int .i64) (.int .u64)) t11)))), (12, .one (.c (.d (.int .i64 t12)))), (13, .one (.c (.d (.int .i64 t13))))], [(0, some ⟨5, 0⟩)], [], 1⟩ [(decide ((((t11.getD t13.toNat (0, 0)).1) : Int) < 1)) = false, (decide ((((t11.getD t13.toNat (0, 0)).1) : Int) > 8)) = true] (by kernel_rfl) ⟨b269_3, b269_e0, trivial⟩ ?_
          refine At.step hm ht ⟨[], [], [], [5, 11, 12, 13], [0]⟩ 3 ⟨[(5, .one (.c (.own 0 (.int .u8) out))), (11, .one (.c (.d (.sl (.pair (.int .i64) (.int .u64)) t11)))), (12, .one (.c (.d (.int .i64 t12)))), (13, .one (.c (.d (.int .i64 (IntKind.wrap .i64 (t13 + 1))))))], [(0, some ⟨5, 0⟩)], [], 1⟩ [] (by kernel_rfl) trivial ?_
          exact ih out t11 t12 (IntKind.wrap .i64 (t13 + 1)) w h o hk
        · refine At.step hm ht ⟨[(3, .b false)], [false], [], [5, 7, 11, 12, 13], [0, 1]⟩ 6 ⟨[(5, .one (.c (.own 0 (.int .u8) out))), (7, .one (.c (.ptr 1 0))), (11, .one (.c (.d (.sl (.pair (.int .i64) (.int .u64)) t11)))), (12, .one (.c (.d (.int .i64 t12)))), (13, .one (.c (.d (.int .i64 t13))))], [(0, some ⟨5, 0⟩)], [(1, [.d (.int .i64 ((t11.getD t13.toNat (0, 0)).1)), .d (.int .u64 ((t11.getD t13.toNat (0, 0)).2))])], 2⟩ [(decide ((((t11.getD t13.toNat (0, 0)).1) : Int) < 1)) = false, (decide ((((t11.getD t13.toNat (0, 0)).1) : Int) > 8)) = false] (by kernel_rfl) ⟨b269_3, b269_e0, trivial⟩ ?_
          refine At.step hm ht ⟨[], [], [], [5, 7, 8, 11, 12, 13], [0, 1]⟩ 7 ⟨[(5, .one (.c (.own 0 (.int .u8) out))), (7, .one (.c (.ptr 1 0))), (8, .one (.c (.d (.int .i64 (IntKind.wrap .i64 (((t11.getD t13.toNat (0, 0)).1) - 1)))))), (11, .one (.c (.d (.sl (.pair (.int .i64) (.int .u64)) t11)))), (12, .one (.c (.d (.int .i64 t12)))), (13, .one (.c (.d (.int .i64 t13))))], [(0, some ⟨5, 0⟩)], [(1, [.d (.int .i64 ((t11.getD t13.toNat (0, 0)).1)), .d (.int .u64 ((t11.getD t13.toNat (0, 0)).2))])], 2⟩ [] (by kernel_rfl) trivial ?_
          obtain ⟨w276, cw276, h⟩ := bindS h
          refine f78_pack_Put_L7_ok n out (IntKind.wrap .i64 (((t11.getD t13.toNat (0, 0)).1) - 1)) t11 t12 t13 ((t11.getD t13.toNat (0, 0)).1) ((t11.getD t13.toNat (0, 0)).2) w276 cw276 _ ?_
          show At Go.Proofs.Try.prog Go.Proofs.Try.f78 0 10 ⟨[(5, .one (.c (.own 0 (.int .u8) w276.1))), (11, .one (.c (.d (.sl (.pair (.int .i64) (.int .u64)) w276.2.1)))), (12, .one (.c (.d (.int .i64 w276.2.2.1)))), (13, .one (.c (.d (.int .i64 w276.2.2.2))))], [(0, some ⟨5, 0⟩)], [], 1⟩ _
          refine At.step hm ht ⟨[], [], [], [5, 11, 12, 13], [0]⟩ 3 ⟨[(5, .one (.c (.own 0 (.int .u8) w276.1))), (11, .one (.c (.d (.sl (.pair (.int .i64) (.int .u64)) w276.2.1)))), (12, .one (.c (.d (.int .i64 w276.2.2.1)))), (13, .one (.c (.d (.int .i64 (IntKind.wrap .i64 (w276.2.2.2 + 1))))))], [(0, some ⟨5, 0⟩)], [], 1⟩ [] (by kernel_rfl) trivial ?_
          exact ih w276.1 w276.2.1 w276.2.2.1 (IntKind.wrap .i64 (w276.2.2.2 + 1)) w h o hk
    · refine At.step hm ht ⟨[], [false], [], [5], [0]⟩ 11 ⟨[(5, .one (.c (.own 0 (.int .u8) out)))], [(0, some ⟨5, 0⟩)], [], 1⟩ [(decide ((t13 : Int) < t12)) = false] (by kernel_rfl) ⟨b267_e0, trivial⟩ ?_
      have h := Option.some.inj h
      subst h
      exact hk
def f78_pack_Put (n : Nat) (b : List Int) (l : List (Int × Int)) : Option (List Int) :=
  if b.length ≤ maxLen ∧ b.length * 1 ≤ 140737488355328 then
  (f78_pack_Put_L3 n b l ((l.length : Nat) : Int) 0).bind fun w279 =>
  some w279
  else none
theorem f78_pack_Put_ok (n : Nat) (b : List Int) (l : List (Int × Int)) (r : List Int) (h : f78_pack_Put n b l = some r) : FnOK Go.Proofs.Try.prog 78 (f78_pack_Put_in b l) (f78_pack_Put_out r) := by
  unfold f78_pack_Put at h
  refine At.fn (r := 0) Go.Proofs.Try.func78 rfl (by kernel_rfl) rfl rfl (by kernel_rfl) ?_
  show At Go.Proofs.Try.prog Go.Proofs.Try.f78 0 0 ⟨[(0, .one (.c (.d (.sl (.int .u8) b)))), (1, .one (.c (.d (.sl (.pair (.int .i64) (.int .u64)) l))))], [], [], 0⟩ _
  refine At.step hm ht ⟨[], [], [], [0, 1], []⟩ 1 ⟨[(0, .one (.c (.d (.sl (.int .u8) b)))), (1, .one (.c (.d (.sl (.pair (.int .i64) (.int .u64)) l))))], [], [], 0⟩ [] (by kernel_rfl) trivial ?_
  obtain ⟨g265_0, h⟩ := ifS h
  refine At.step hm ht ⟨[], [], [], [1, 5], [1]⟩ 2 ⟨[(1, .one (.c (.d (.sl (.pair (.int .i64) (.int .u64)) l)))), (5, .one (.c (.own 0 (.int .u8) b)))], [(0, some ⟨5, 0⟩)], [], 1⟩ [b.length ≤ maxLen ∧ b.length * 1 ≤ 140737488355328] (by kernel_rfl) ⟨g265_0, trivial⟩ ?_
  refine At.step hm ht ⟨[], [], [], [5, 11, 12, 13], [0]⟩ 3 ⟨[(5, .one (.c (.own 0 (.int .u8) b))), (11, .one (.c (.d (.sl (.pair (.int .i64) (.int .u64)) l)))), (12, .one (.c (.d (.int .i64 ((l.length : Nat) : Int))))), (13, .one (.c (.d (.int .i64 0))))], [(0, some ⟨5, 0⟩)], [], 1⟩ [] (by kernel_rfl) trivial ?_
  obtain ⟨w279, cw279, h⟩ := bindS h
  refine f78_pack_Put_L3_ok n b l ((l.length : Nat) : Int) 0 w279 cw279 _ ?_
  show At Go.Proofs.Try.prog Go.Proofs.Try.f78 0 11 ⟨[(5, .one (.c (.own 0 (.int .u8) w279)))], [(0, some ⟨5, 0⟩)], [], 1⟩ _
  have h := Option.some.inj h
  subst h
  exact At.fin hm ht ⟨[], [], [], [4], [0]⟩ [] (by kernel_rfl) trivial
/-! brougham/pack.B -/
def f81_pack_B_in (n_ : Int) : Inn := ⟨[.c (.d (.int .u8 n_))], [], [], 0⟩
def f81_pack_B_out (r : Int × Int) : Out := ⟨.one (.agg [.d (.int .i64 r.1), .d (.int .u64 r.2)]), [], [(0, [.d (.int .i64 r.1), .d (.int .u64 r.2)])], 1⟩
def f81_pack_B (n_ : Int) : Option (Int × Int) :=
  some (1, (IntKind.wrap .u64 n_))
theorem f81_pack_B_ok (n_ : Int) (r : Int × Int) (h : f81_pack_B n_ = some r) : FnOK Go.Proofs.Try.prog 81 (f81_pack_B_in n_) (f81_pack_B_out r) := by
  unfold f81_pack_B at h
  refine At.fn (r := 0) Go.Proofs.Try.func81 rfl (by kernel_rfl) rfl rfl (by kernel_rfl) ?_
  show At Go.Proofs.Try.prog Go.Proofs.Try.f81 0 0 ⟨[(0, .one (.c (.d (.int .u8 n_))))], [], [], 0⟩ _
  refine At.step hm ht ⟨[], [], [], [0, 2], [0]⟩ 1 ⟨[(0, .one (.c (.d (.int .u8 n_)))), (2, .one (.c (.ptr 0 0)))], [], [(0, [.d (.int .i64 0), .d (.int .u64 0)])], 1⟩ [] (by kernel_rfl) trivial ?_
  have h := Option.some.inj h
  subst h
  exact At.fin hm ht ⟨[], [], [], [2], [0]⟩ [0 + 2 ≤ 2] (by kernel_rfl) ⟨(by decide), trivial⟩
/-! brougham/capture.Sum -/
def f25_capture_Sum_in (b : List Int) : Inn := ⟨[.c (.d (.sl (.int .u8) b))], [], [], 0⟩
def f25_capture_Sum_out (r : Int) : Out := ⟨.one (.c (.d (.int .u32 r))), [], [], 0⟩
def f25_capture_Sum_L3 : Nat → (List Int) → Int → Int → Int → Option (Int × Int)
  | 0, _, _, _, _ => none
  | n + 1, b, x, y, i =>
    if (decide ((i : Int) < ((b.length : Nat) : Int))) = true then
      if (0 : Int) ≤ i ∧ i < (((b).length : Nat) : Int) then
      if (decide (((IntKind.wrap .i64 (i + 1)) : Int) < ((b.length : Nat) : Int))) = true then
        if (0 : Int) ≤ (IntKind.wrap .i64 (i + 1)) ∧ (IntKind.wrap .i64 (i + 1)) < (((b).length : Nat) : Int) then
        f25_capture_Sum_L3 n b (Int.tmod (IntKind.wrap .u32 (x + (bits .or .u32 (IntKind.wrap .u32 ((IntKind.wrap .u32 (b.getD i.toNat 0)) * 2 ^ 8)) (IntKind.wrap .u32 (b.getD (IntKind.wrap .i64 (i + 1)).toNat 0))))) 65535) (Int.tmod (IntKind.wrap .u32 (y + (Int.tmod (IntKind.wrap .u32 (x + (bits .or .u32 (IntKind.wrap .u32 ((IntKind.wrap .u32 (b.getD i.toNat 0)) * 2 ^ 8)) (IntKind.wrap .u32 (b.getD (IntKind.wrap .i64 (i + 1)).toNat 0))))) 65535))) 65535) (IntKind.wrap .i64 (i + 2))
        else none
      else
        f25_capture_Sum_L3 n b (Int.tmod (IntKind.wrap .u32 (x + (IntKind.wrap .u32 ((IntKind.wrap .u32 (b.getD i.toNat 0)) * 2 ^ 8)))) 65535) (Int.tmod (IntKind.wrap .u32 (y + (Int.tmod (IntKind.wrap .u32 (x + (IntKind.wrap .u32 ((IntKind.wrap .u32 (b.getD i.toNat 0)) * 2 ^ 8)))) 65535))) 65535) (IntKind.wrap .i64 (i + 2))
      else none
    else
      some ((x, y))
def f25_capture_Sum_L3_k (e : Int × Int) (o : Out) : Prop := At Go.Proofs.Try.prog Go.Proofs.Try.f25 0 10 ⟨[(3, .one (.c (.d (.int .u32 e.1)))), (4, .one (.c (.d (.int .u32 e.2))))], [], [], 0⟩ o
theorem f25_capture_Sum_L3_ok (n : Nat) : ∀ (b : List Int) (x : Int) (y : Int) (i : Int) (w : Int × Int) (h : f25_capture_Sum_L3 n b x y i = some w) (o : Out) (hk : f25_capture_Sum_L3_k w o), At Go.Proofs.Try.prog Go.Proofs.Try.f25 0 3 ⟨[(0, .one (.c (.d (.sl (.int .u8) b)))), (3, .one (.c (.d (.int .u32 x)))), (4, .one (.c (.d (.int .u32 y)))), (5, .one (.c (.d (.int .i64 i))))], [], [], 0⟩ o := by
  induction n with
  | zero => intro b x y i w h; rw [f25_capture_Sum_L3] at h; cases h
  | succ n ih =>
    intro b x y i w h o hk
    rw [f25_capture_Sum_L3] at h
    rcases iteS h with ⟨b298_e0, h⟩ | ⟨b298_e0, h⟩
    · refine At.step hm ht ⟨[], [true], [], [0, 3, 4, 5], []⟩ 5 ⟨[(0, .one (.c (.d (.sl (.int .u8) b)))), (3, .one (.c (.d (.int .u32 x)))), (4, .one (.c (.d (.int .u32 y)))), (5, .one (.c (.d (.int .i64 i))))], [], [], 0⟩ [(decide ((i : Int) < ((b.length : Nat) : Int))) = true] (by kernel_rfl) ⟨b298_e0, trivial⟩ ?_
      obtain ⟨g299_0, h⟩ := ifS h
      refine At.step hm ht ⟨[], [], [], [0, 3, 4, 5, 6], []⟩ 6 ⟨[(0, .one (.c (.d (.sl (.int .u8) b)))), (3, .one (.c (.d (.int .u32 x)))), (4, .one (.c (.d (.int .u32 y)))), (5, .one (.c (.d (.int .i64 i)))), (6, .one (.c (.d (.int .u32 (IntKind.wrap .u32 ((IntKind.wrap .u32 (b.getD i.toNat 0)) * 2 ^ 8))))))], [], [], 0⟩ [(0 : Int) ≤ i ∧ i < (((b).length : Nat) : Int), (0 : Int) ≤ 8] (by kernel_rfl) ⟨g299_0, (by decide), trivial⟩ ?_
      rcases iteS h with ⟨b300_e0, h⟩ | ⟨b300_e0, h⟩
      · refine At.step hm ht ⟨[], [true], [], [0, 3, 4, 5, 6], []⟩ 7 ⟨[(0, .one (.c (.d (.sl (.int .u8) b)))), (3, .one (.c (.d (.int .u32 x)))), (4, .one (.c (.d (.int .u32 y)))), (5, .one (.c (.d (.int .i64 i)))), (6, .one (.c (.d (.int .u32 (IntKind.wrap .u32 ((IntKind.wrap .u32 (b.getD i.toNat 0)) * 2 ^ 8))))))], [], [], 0⟩ [(decide (((IntKind.wrap .i64 (i + 1)) : Int) < ((b.length : Nat) : Int))) = true] (by kernel_rfl) ⟨b300_e0, trivial⟩ ?_
        obtain ⟨g301_0, h⟩ := ifS h
        refine At.step hm ht ⟨[], [], [], [0, 3, 4, 5, 6], []⟩ 8 ⟨[(0, .one (.c (.d (.sl (.int .u8) b)))), (3, .one (.c (.d (.int .u32 x)))), (4, .one (.c (.d (.int .u32 y)))), (5, .one (.c (.d (.int .i64 i)))), (6, .one (.c (.d (.int .u32 (bits .or .u32 (IntKind.wrap .u32 ((IntKind.wrap .u32 (b.getD i.toNat 0)) * 2 ^ 8)) (IntKind.wrap .u32 (b.getD (IntKind.wrap .i64 (i + 1)).toNat 0)))))))], [], [], 0⟩ [(0 : Int) ≤ (IntKind.wrap .i64 (i + 1)) ∧ (IntKind.wrap .i64 (i + 1)) < (((b).length : Nat) : Int)] (by kernel_rfl) ⟨g301_0, trivial⟩ ?_
        refine At.step hm ht ⟨[], [], [], [0, 3, 4, 5], []⟩ 9 ⟨[(0, .one (.c (.d (.sl (.int .u8) b)))), (3, .one (.c (.d (.int .u32 (Int.tmod (IntKind.wrap .u32 (x + (bits .or .u32 (IntKind.wrap .u32 ((IntKind.wrap .u32 (b.getD i.toNat 0)) * 2 ^ 8)) (IntKind.wrap .u32 (b.getD (IntKind.wrap .i64 (i + 1)).toNat 0))))) 65535))))), (4, .one (.c (.d (.int .u32 y)))), (5, .one (.c (.d (.int .i64 i))))], [], [], 0⟩ [(65535 : Int) ≠ 0] (by kernel_rfl) ⟨(by decide), trivial⟩ ?_
        refine At.step hm ht ⟨[], [], [], [0, 3, 4, 5], []⟩ 4 ⟨[(0, .one (.c (.d (.sl (.int .u8) b)))), (3, .one (.c (.d (.int .u32 (Int.tmod (IntKind.wrap .u32 (x + (bits .or .u32 (IntKind.wrap .u32 ((IntKind.wrap .u32 (b.getD i.toNat 0)) * 2 ^ 8)) (IntKind.wrap .u32 (b.getD (IntKind.wrap .i64 (i + 1)).toNat 0))))) 65535))))), (4, .one (.c (.d (.int .u32 (Int.tmod (IntKind.wrap .u32 (y + (Int.tmod (IntKind.wrap .u32 (x + (bits .or .u32 (IntKind.wrap .u32 ((IntKind.wrap .u32 (b.getD i.toNat 0)) * 2 ^ 8)) (IntKind.wrap .u32 (b.getD (IntKind.wrap .i64 (i + 1)).toNat 0))))) 65535))) 65535))))), (5, .one (.c (.d (.int .i64 i))))], [], [], 0⟩ [(65535 : Int) ≠ 0] (by kernel_rfl) ⟨(by decide), trivial⟩ ?_
        refine At.step hm ht ⟨[], [], [], [0, 3, 4, 5], []⟩ 3 ⟨[(0, .one (.c (.d (.sl (.int .u8) b)))), (3, .one (.c (.d (.int .u32 (Int.tmod (IntKind.wrap .u32 (x + (bits .or .u32 (IntKind.wrap .u32 ((IntKind.wrap .u32 (b.getD i.toNat 0)) * 2 ^ 8)) (IntKind.wrap .u32 (b.getD (IntKind.wrap .i64 (i + 1)).toNat 0))))) 65535))))), (4, .one (.c (.d (.int .u32 (Int.tmod (IntKind.wrap .u32 (y + (Int.tmod (IntKind.wrap .u32 (x + (bits .or .u32 (IntKind.wrap .u32 ((IntKind.wrap .u32 (b.getD i.toNat 0)) * 2 ^ 8)) (IntKind.wrap .u32 (b.getD (IntKind.wrap .i64 (i + 1)).toNat 0))))) 65535))) 65535))))), (5, .one (.c (.d (.int .i64 (IntKind.wrap .i64 (i + 2))))))], [], [], 0⟩ [] (by kernel_rfl) trivial ?_
        exact ih b (Int.tmod (IntKind.wrap .u32 (x + (bits .or .u32 (IntKind.wrap .u32 ((IntKind.wrap .u32 (b.getD i.toNat 0)) * 2 ^ 8)) (IntKind.wrap .u32 (b.getD (IntKind.wrap .i64 (i + 1)).toNat 0))))) 65535) (Int.tmod (IntKind.wrap .u32 (y + (Int.tmod (IntKind.wrap .u32 (x + (bits .or .u32 (IntKind.wrap .u32 ((IntKind.wrap .u32 (b.getD i.toNat 0)) * 2 ^ 8)) (IntKind.wrap .u32 (b.getD (IntKind.wrap .i64 (i + 1)).toNat 0))))) 65535))) 65535) (IntKind.wrap .i64 (i + 2)) w h o hk
      · refine At.step hm ht ⟨[], [false], [], [0, 3, 4, 5, 6], []⟩ 8 ⟨[(0, .one (.c (.d (.sl (.int .u8) b)))), (3, .one (.c (.d (.int .u32 x)))), (4, .one (.c (.d (.int .u32 y)))), (5, .one (.c (.d (.int .i64 i)))), (6, .one (.c (.d (.int .u32 (IntKind.wrap .u32 ((IntKind.wrap .u32 (b.getD i.toNat 0)) * 2 ^ 8))))))], [], [], 0⟩ [(decide (((IntKind.wrap .i64 (i + 1)) : Int) < ((b.length : Nat) : Int))) = false] (by kernel_rfl) ⟨b300_e0, trivial⟩ ?_
        refine At.step hm ht ⟨[], [], [], [0, 3, 4, 5], []⟩ 9 ⟨[(0, .one (.c (.d (.sl (.int .u8) b)))), (3, .one (.c (.d (.int .u32 (Int.tmod (IntKind.wrap .u32 (x + (IntKind.wrap .u32 ((IntKind.wrap .u32 (b.getD i.toNat 0)) * 2 ^ 8)))) 65535))))), (4, .one (.c (.d (.int .u32 y)))), (5, .one (.c (.d (.int .i64 i))))], [], [], 0⟩ [(65535 : Int) ≠ 0] (by kernel_rfl) ⟨(by decide), trivial⟩ ?_
        refine At.step hm ht ⟨[], [], [], [0, 3, 4, 5], []⟩ 4 ⟨[(0, .one (.c (.d (.sl (.int .u8) b)))), (3, .one (.c (.d (.int .u32 (Int.tmod (IntKind.wrap .u32 (x + (IntKind.wrap .u32 ((IntKind.wrap .u32 (b.getD i.toNat 0)) * 2 ^ 8)))) 65535))))), (4, .one (.c (.d (.int .u32 (Int.tmod (IntKind.wrap .u32 (y + (Int.tmod (IntKind.wrap .u32 (x + (IntKind.wrap .u32 ((IntKind.wrap .u32 (b.getD i.toNat 0)) * 2 ^ 8)))) 65535))) 65535))))), (5, .one (.c (.d (.int .i64 i))))], [], [], 0⟩ [(65535 : Int) ≠ 0] (by kernel_rfl) ⟨(by decide), trivial⟩ ?_
        refine At.step hm ht ⟨[], [], [], [0, 3, 4, 5], []⟩ 3 ⟨[(0, .one (.c (.d (.sl (.int .u8) b)))), (3, .one (.c (.d (.int .u32 (Int.tmod (IntKind.wrap .u32 (x + (IntKind.wrap .u32 ((IntKind.wrap .u32 (b.getD i.toNat 0)) * 2 ^ 8)))) 65535))))), (4, .one (.c (.d (.int .u32 (Int.tmod (IntKind.wrap .u32 (y + (Int.tmod (IntKind.wrap .u32 (x + (IntKind.wrap .u32 ((IntKind.wrap .u32 (b.getD i.toNat 0)) * 2 ^ 8)))) 65535))) 65535))))), (5, .one (.c (.d (.int .i64 (IntKind.wrap .i64 (i + 2))))))], [], [], 0⟩ [] (by kernel_rfl) trivial ?_
        exact ih b (Int.tmod (IntKind.wrap .u32 (x + (IntKind.wrap .u32 ((IntKind.wrap .u32 (b.getD i.toNat 0)) * 2 ^ 8)))) 65535) (Int.tmod (IntKind.wrap .u32 (y + (Int.tmod (IntKind.wrap .u32 (x + (IntKind.wrap .u32 ((IntKind.wrap .u32 (b.getD i.toNat 0)) * 2 ^ 8)))) 65535))) 65535) (IntKind.wrap .i64 (i + 2)) w h o hk
    · refine At.step hm ht ⟨[], [false], [], [3, 4], []⟩ 10 ⟨[(3, .one (.c (.d (.int .u32 x)))), (4, .one (.c (.d (.int .u32 y))))], [], [], 0⟩ [(decide ((i : Int) < ((b.length : Nat) : Int))) = false] (by kernel_rfl) ⟨b298_e0, trivial⟩ ?_
      have h := Option.some.inj h
      subst h
      exact hk
def f25_capture_Sum (n : Nat) (b : List Int) : Option (Int) :=
  (f25_capture_Sum_L3 n b 0 0 0).bind fun w308 =>
  some (bits .or .u32 (IntKind.wrap .u32 (w308.2 * 2 ^ 16)) w308.1)
theorem f25_capture_Sum_ok (n : Nat) (b : List Int) (r : Int) (h : f25_capture_Sum n b = some r) : FnOK Go.Proofs.Try.prog 25 (f25_capture_Sum_in b) (f25_capture_Sum_out r) := by
  unfold f25_capture_Sum at h
  refine At.fn (r := 0) Go.Proofs.Try.func25 rfl (by kernel_rfl) rfl rfl (by kernel_rfl) ?_
  show At Go.Proofs.Try.prog Go.Proofs.Try.f25 0 0 ⟨[(0, .one (.c (.d (.sl (.int .u8) b))))], [], [], 0⟩ _
  refine At.step hm ht ⟨[], [], [], [0], []⟩ 1 ⟨[(0, .one (.c (.d (.sl (.int .u8) b))))], [], [], 0⟩ [] (by kernel_rfl) trivial ?_
  refine At.step hm ht ⟨[], [], [], [0, 3, 4], []⟩ 2 ⟨[(0, .one (.c (.d (.sl (.int .u8) b)))), (3, .one (.c (.d (.int .u32 0)))), (4, .one (.c (.d (.int .u32 0))))], [], [], 0⟩ [] (by kernel_rfl) trivial ?_
  refine At.step hm ht ⟨[], [], [], [0, 3, 4, 5], []⟩ 3 ⟨[(0, .one (.c (.d (.sl (.int .u8) b)))), (3, .one (.c (.d (.int .u32 0)))), (4, .one (.c (.d (.int .u32 0)))), (5, .one (.c (.d (.int .i64 0))))], [], [], 0⟩ [] (by kernel_rfl) trivial ?_
  obtain ⟨w308, cw308, h⟩ := bindS h
  refine f25_capture_Sum_L3_ok n b 0 0 0 w308 cw308 _ ?_
  show At Go.Proofs.Try.prog Go.Proofs.Try.f25 0 10 ⟨[(3, .one (.c (.d (.int .u32 w308.1)))), (4, .one (.c (.d (.int .u32 w308.2))))], [], [], 0⟩ _
  have h := Option.some.inj h
  subst h
  exact At.fin hm ht ⟨[], [], [], [2], []⟩ [(0 : Int) ≤ 16] (by kernel_rfl) ⟨(by decide), trivial⟩
/-! brougham/capture.Encode -/
def f20_capture_Encode_in (l : List (Int × Int × Int × List Int)) : Inn := ⟨[.c (.d (.sl (.pair (.int .i64) (.pair (.int .i64) (.pair (.int .i64) (.slice (.int .u8))))) l))], [], [], 0⟩
def f20_capture_Encode_out (r : List Int × Bool) : Out := ⟨.tup [.c (.own 0 (.int .u8) r.1), .c (.d (.bool r.2))], [(0, ⟨5, 0⟩)], [], 1⟩
def f20_capture_Encode_L6 : Nat → (List Int) → Int → (List (Int × Int × Int × List Int)) → Int → Int → Option (List Int)
  | 0, _, _, _, _, _ => none
  | n + 1, b, last, t18, t19, t20 =>
    if (decide ((t20 : Int) < t19)) = true then
      if (0 : Int) ≤ t20 ∧ t20 < (((t18).length : Nat) : Int) then
      (f79_pack_W (IntKind.wrap .u32 (IntKind.wrap .i64 (((t18.getD t20.toNat (0, (0, (0, [])))).1) - last)))).bind fun r319_0 =>
      (f81_pack_B (IntKind.wrap .u8 (bits .or .i64 (IntKind.wrap .i64 ((((t18.getD t20.toNat (0, (0, (0, [])))).2).1) * 2 ^ 7)) ((((t18.getD t20.toNat (0, (0, (0, [])))).2).2).1)))).bind fun r319_1 =>
      (f80_pack_H (IntKind.wrap .u16 ((((((t18.getD t20.toNat (0, (0, (0, [])))).2).2).2).length : Nat) : Int))).bind fun r319_2 =>
      (f78_pack_Put n b [r319_0, r319_1, r319_2]).bind fun r319_3 =>
      if r319_3.length + ((((t18.getD t20.toNat (0, (0, (0, [])))).2).2).2).length ≤ maxLen ∧ (r319_3.length + ((((t18.getD t20.toNat (0, (0, (0, [])))).2).2).2).length) * 1 ≤ 140737488355328 then
      f20_capture_Encode_L6 n (r319_3 ++ (((t18.getD t20.toNat (0, (0, (0, [])))).2).2).2) ((t18.getD t20.toNat (0, (0, (0, [])))).1) t18 t19 (IntKind.wrap .i64 (t20 + 1))
      else none
      else none
    else
      some (b)
def f20_capture_Encode_L6_k (e : List Int) (o : Out) : Prop := At Go.Proofs.Try.prog Go.Proofs.Try.f20 0 12 ⟨[(4, .one (.c (.own 0 (.int .u8) e)))], [(0, some ⟨5, 0⟩)], [], 1⟩ o
theorem f20_capture_Encode_L6_ok (n : Nat) : ∀ (b : List Int) (last : Int) (t18 : List (Int × Int × Int × List Int)) (t19 : Int) (t20 : Int) (w : List Int) (h : f20_capture_Encode_L6 n b last t18 t19 t20 = some w) (o : Out) (hk : f20_capture_Encode_L6_k w o), At Go.Proofs.Try.prog Go.Proofs.Try.f20 0 6 ⟨[(4, .one (.c (.own 0 (.int .u8) b))), (5, .one (.c (.d (.int .i64 last)))), (18, .one (.c (.d (.sl (.pair (.int .i64) (.pair (.int .i64) (.pair (.int .i64) (.slice (.int .u8))))) t18)))), (19, .one (.c (.d (.int .i64 t19)))), (20, .one (.c (.d (.int .i64 t20))))], [(0, some ⟨5, 0⟩)], [], 1⟩ o := by
  induction n with
  | zero => intro b last t18 t19 t20 w h; rw [f20_capture_Encode_L6] at h; cases h
  | succ n ih =>
    intro b last t18 t19 t20 w h o hk
    rw [f20_capture_Encode_L6] at h
    rcases iteS h with ⟨b317_e0, h⟩ | ⟨b317_e0, h⟩
    · refine At.step hm ht ⟨[], [true], [], [4, 5, 18, 19, 20], [0]⟩ 7 ⟨[(4, .one (.c (.own 0 (.int .u8) b))), (5, .one (.c (.d (.int .i64 last)))), (18, .one (.c (.d (.sl (.pair (.int .i64) (.pair (.int .i64) (.pair (.int .i64) (.slice (.int .u8))))) t18)))), (19, .one (.c (.d (.int .i64 t19)))), (20, .one (.c (.d (.int .i64 t20))))], [(0, some ⟨5, 0⟩)], [], 1⟩ [(decide ((t20 : Int) < t19)) = true] (by kernel_rfl) ⟨b317_e0, trivial⟩ ?_
      obtain ⟨g318_0, h⟩ := ifS h
      refine At.step hm ht ⟨[], [], [], [4, 5, 7, 18, 19, 20], [0, 3]⟩ 8 ⟨[(4, .one (.c (.own 0 (.int .u8) b))), (5, .one (.c (.d (.int .i64 last)))), (7, .one (.c (.ptr 1 0))), (18, .one (.c (.d (.sl (.pair (.int .i64) (.pair (.int .i64) (.pair (.int .i64) (.slice (.int .u8))))) t18)))), (19, .one (.c (.d (.int .i64 t19)))), (20, .one (.c (.d (.int .i64 t20))))], [(0, some ⟨5, 0⟩)], [(1, [.d (.int .i64 ((t18.getD t20.toNat (0, (0, (0, [])))).1)), .d (.int .i64 (((t18.getD t20.toNat (0, (0, (0, [])))).2).1)), .d (.int .i64 ((((t18.getD t20.toNat (0, (0, (0, [])))).2).2).1)), .d (.sl (.int .u8) ((((t18.getD t20.toNat (0, (0, (0, [])))).2).2).2))])], 2⟩ [(0 : Int) ≤ t20 ∧ t20 < (((t18).length : Nat) : Int), 0 + 4 ≤ 4] (by kernel_rfl) ⟨g318_0, (by decide), trivial⟩ ?_
      obtain ⟨r319_0, cr319_0, h⟩ := bindS h
      obtain ⟨r319_1, cr319_1, h⟩ := bindS h
      obtain ⟨r319_2, cr319_2, h⟩ := bindS h
      obtain ⟨r319_3, cr319_3, h⟩ := bindS h
      refine At.step hm ht ⟨[(6, .call [] [] (f79_pack_W_out r319_0)), (14, .call [] [] (f81_pack_B_out r319_1)), (19, .call [] [] (f80_pack_H_out r319_2)), (21, .call [] [] (f78_pack_Put_out r319_3))], [], [], [4, 7, 18, 19, 20], [23, 1]⟩ 9 ⟨[(4, .one (.c (.own 0 (.int .u8) r319_3))), (7, .one (.c (.ptr 1 0))), (18, .one (.c (.d (.sl (.pair (.int .i64) (.pair (.int .i64) (.pair (.int .i64) (.slice (.int .u8))))) t18)))), (19, .one (.c (.d (.int .i64 t19)))), (20, .one (.c (.d (.int .i64 t20))))], [(0, some ⟨5, 0⟩)], [(1, [.d (.int .i64 ((t18.getD t20.toNat (0, (0, (0, [])))).1)), .d (.int .i64 (((t18.getD t20.toNat (0, (0, (0, [])))).2).1)), .d (.int .i64 ((((t18.getD t20.toNat (0, (0, (0, [])))).2).2).1)), .d (.sl (.int .u8) ((((t18.getD t20.toNat (0, (0, (0, [])))).2).2).2))])], 2⟩ [FnOK Go.Proofs.Try.prog 79 (f79_pack_W_in (IntKind.wrap .u32 (IntKind.wrap .i64 (((t18.getD t20.toNat (0, (0, (0, [])))).1) - last)))) (f79_pack_W_out r319_0), (0 : Int) ≤ 7, FnOK Go.Proofs.Try.prog 81 (f81_pack_B_in (IntKind.wrap .u8 (bits .or .i64 (IntKind.wrap .i64 ((((t18.getD t20.toNat (0, (0, (0, [])))).2).1) * 2 ^ 7)) ((((t18.getD t20.toNat (0, (0, (0, [])))).2).2).1)))) (f81_pack_B_out r319_1), FnOK Go.Proofs.Try.prog 80 (f80_pack_H_in (IntKind.wrap .u16 ((((((t18.getD t20.toNat (0, (0, (0, [])))).2).2).2).length : Nat) : Int))) (f80_pack_H_out r319_2), FnOK Go.Proofs.Try.prog 78 (f78_pack_Put_in b [r319_0, r319_1, r319_2]) (f78_pack_Put_out r319_3)] (by kernel_rfl) ⟨(f79_pack_W_ok (IntKind.wrap .u32 (IntKind.wrap .i64 (((t18.getD t20.toNat (0, (0, (0, [])))).1) - last))) r319_0 cr319_0), (by decide), (f81_pack_B_ok (IntKind.wrap .u8 (bits .or .i64 (IntKind.wrap .i64 ((((t18.getD t20.toNat (0, (0, (0, [])))).2).1) * 2 ^ 7)) ((((t18.getD t20.toNat (0, (0, (0, [])))).2).2).1))) r319_1 cr319_1), (f80_pack_H_ok (IntKind.wrap .u16 ((((((t18.getD t20.toNat (0, (0, (0, [])))).2).2).2).length : Nat) : Int)) r319_2 cr319_2), (f78_pack_Put_ok n b [r319_0, r319_1, r319_2] r319_3 cr319_3), trivial⟩ ?_
      obtain ⟨g320_0, h⟩ := ifS h
      refine At.step hm ht ⟨[], [], [], [4, 7, 18, 19, 20], [5, 1]⟩ 10 ⟨[(4, .one (.c (.own 0 (.int .u8) (r319_3 ++ (((t18.getD t20.toNat (0, (0, (0, [])))).2).2).2)))), (7, .one (.c (.ptr 1 0))), (18, .one (.c (.d (.sl (.pair (.int .i64) (.pair (.int .i64) (.pair (.int .i64) (.slice (.int .u8))))) t18)))), (19, .one (.c (.d (.int .i64 t19)))), (20, .one (.c (.d (.int .i64 t20))))], [(0, some ⟨5, 0⟩)], [(1, [.d (.int .i64 ((t18.getD t20.toNat (0, (0, (0, [])))).1)), .d (.int .i64 (((t18.getD t20.toNat (0, (0, (0, [])))).2).1)), .d (.int .i64 ((((t18.getD t20.toNat (0, (0, (0, [])))).2).2).1)), .d (.sl (.int .u8) ((((t18.getD t20.toNat (0, (0, (0, [])))).2).2).2))])], 2⟩ [r319_3.length + ((((t18.getD t20.toNat (0, (0, (0, [])))).2).2).2).length ≤ maxLen ∧ (r319_3.length + ((((t18.getD t20.toNat (0, (0, (0, [])))).2).2).2).length) * 1 ≤ 140737488355328] (by kernel_rfl) ⟨g320_0, trivial⟩ ?_
      refine At.step hm ht ⟨[], [], [], [4, 5, 18, 19, 20], [0]⟩ 11 ⟨[(4, .one (.c (.own 0 (.int .u8) (r319_3 ++ (((t18.getD t20.toNat (0, (0, (0, [])))).2).2).2)))), (5, .one (.c (.d (.int .i64 ((t18.getD t20.toNat (0, (0, (0, [])))).1))))), (18, .one (.c (.d (.sl (.pair (.int .i64) (.pair (.int .i64) (.pair (.int .i64) (.slice (.int .u8))))) t18)))), (19, .one (.c (.d (.int .i64 t19)))), (20, .one (.c (.d (.int .i64 t20))))], [(0, some ⟨5, 0⟩)], [], 1⟩ [] (by kernel_rfl) trivial ?_
      refine At.step hm ht ⟨[], [], [], [4, 5, 18, 19, 20], [0]⟩ 6 ⟨[(4, .one (.c (.own 0 (.int .u8) (r319_3 ++ (((t18.getD t20.toNat (0, (0, (0, [])))).2).2).2)))), (5, .one (.c (.d (.int .i64 ((t18.getD t20.toNat (0, (0, (0, [])))).1))))), (18, .one (.c (.d (.sl (.pair (.int .i64) (.pair (.int .i64) (.pair (.int .i64) (.slice (.int .u8))))) t18)))), (19, .one (.c (.d (.int .i64 t19)))), (20, .one (.c (.d (.int .i64 (IntKind.wrap .i64 (t20 + 1))))))], [(0, some ⟨5, 0⟩)], [], 1⟩ [] (by kernel_rfl) trivial ?_
      exact ih (r319_3 ++ (((t18.getD t20.toNat (0, (0, (0, [])))).2).2).2) ((t18.getD t20.toNat (0, (0, (0, [])))).1) t18 t19 (IntKind.wrap .i64 (t20 + 1)) w h o hk
    · refine At.step hm ht ⟨[], [false], [], [4], [0]⟩ 12 ⟨[(4, .one (.c (.own 0 (.int .u8) b)))], [(0, some ⟨5, 0⟩)], [], 1⟩ [(decide ((t20 : Int) < t19)) = false] (by kernel_rfl) ⟨b317_e0, trivial⟩ ?_
      have h := Option.some.inj h
      subst h
      exact hk
def f20_capture_Encode (n : Nat) (l : List (Int × Int × Int × List Int)) : Option (List Int × Bool) :=
  (f23_capture_Right n l).bind fun r312_0 =>
  if (!r312_0) = true then
    some ([], false)
  else
    (f79_pack_W 1112690517).bind fun r314_0 =>
    (f80_pack_H (IntKind.wrap .u16 ((l.length : Nat) : Int))).bind fun r314_1 =>
    (f78_pack_Put n [] [r314_0, r314_1]).bind fun r314_2 =>
    (f20_capture_Encode_L6 n r314_2 0 l ((l.length : Nat) : Int) 0).bind fun w323 =>
    (f25_capture_Sum n w323).bind fun r325_0 =>
    (f79_pack_W r325_0).bind fun r325_1 =>
    (f78_pack_Put n w323 [r325_1]).bind fun r325_2 =>
    some (r325_2, true)
theorem f20_capture_Encode_ok (n : Nat) (l : List (Int × Int × Int × List Int)) (r : List Int × Bool) (h : f20_capture_Encode n l = some r) : FnOK Go.Proofs.Try.prog 20 (f20_capture_Encode_in l) (f20_capture_Encode_out r) := by
  unfold f20_capture_Encode at h
  refine At.fn (r := 0) Go.Proofs.Try.func20 rfl (by kernel_rfl) rfl rfl (by kernel_rfl) ?_
  show At Go.Proofs.Try.prog Go.Proofs.Try.f20 0 0 ⟨[(0, .one (.c (.d (.sl (.pair (.int .i64) (.pair (.int .i64) (.pair (.int .i64) (.slice (.int .u8))))) l))))], [], [], 0⟩ _
  refine At.step hm ht ⟨[], [], [], [0], []⟩ 1 ⟨[(0, .one (.c (.d (.sl (.pair (.int .i64) (.pair (.int .i64) (.pair (.int .i64) (.slice (.int .u8))))) l))))], [], [], 0⟩ [] (by kernel_rfl) trivial ?_
  obtain ⟨r312_0, cr312_0, h⟩ := bindS h
  rcases iteS h with ⟨b312_e0, h⟩ | ⟨b312_e0, h⟩
  · refine At.step hm ht ⟨[(1, .call [] [] (f23_capture_Right_out r312_0))], [true], [], [], []⟩ 2 ⟨[], [], [], 0⟩ [FnOK Go.Proofs.Try.prog 23 (f23_capture_Right_in l) (f23_capture_Right_out r312_0), (!r312_0) = true] (by kernel_rfl) ⟨(f23_capture_Right_ok n l r312_0 cr312_0), b312_e0, trivial⟩ ?_
    have h := Option.some.inj h
    subst h
    exact At.fin hm ht ⟨[], [], [.nil false 2 0 (.int .u8) (some 5)], [2, 3], [2]⟩ [] (by kernel_rfl) trivial
  · refine At.step hm ht ⟨[(1, .call [] [] (f23_capture_Right_out r312_0))], [false], [], [0], []⟩ 3 ⟨[(0, .one (.c (.d (.sl (.pair (.int .i64) (.pair (.int .i64) (.pair (.int .i64) (.slice (.int .u8))))) l))))], [], [], 0⟩ [FnOK Go.Proofs.Try.prog 23 (f23_capture_Right_in l) (f23_capture_Right_out r312_0), (!r312_0) = false] (by kernel_rfl) ⟨(f23_capture_Right_ok n l r312_0 cr312_0), b312_e0, trivial⟩ ?_
    obtain ⟨r314_0, cr314_0, h⟩ := bindS h
    obtain ⟨r314_1, cr314_1, h⟩ := bindS h
    obtain ⟨r314_2, cr314_2, h⟩ := bindS h
    refine At.step hm ht ⟨[(0, .call [] [] (f79_pack_W_out r314_0)), (4, .call [] [] (f80_pack_H_out r314_1)), (6, .call [] [(0, 0, (.int .u8))] (f78_pack_Put_out r314_2))], [], [], [0, 4], [6]⟩ 4 ⟨[(0, .one (.c (.d (.sl (.pair (.int .i64) (.pair (.int .i64) (.pair (.int .i64) (.slice (.int .u8))))) l)))), (4, .one (.c (.own 0 (.int .u8) r314_2)))], [(0, some ⟨5, 0⟩)], [], 1⟩ [FnOK Go.Proofs.Try.prog 79 (f79_pack_W_in 1112690517) (f79_pack_W_out r314_0), FnOK Go.Proofs.Try.prog 80 (f80_pack_H_in (IntKind.wrap .u16 ((l.length : Nat) : Int))) (f80_pack_H_out r314_1), FnOK Go.Proofs.Try.prog 78 (f78_pack_Put_in [] [r314_0, r314_1]) (f78_pack_Put_out r314_2)] (by kernel_rfl) ⟨(f79_pack_W_ok 1112690517 r314_0 cr314_0), (f80_pack_H_ok (IntKind.wrap .u16 ((l.length : Nat) : Int)) r314_1 cr314_1), (f78_pack_Put_ok n [] [r314_0, r314_1] r314_2 cr314_2), trivial⟩ ?_
    refine At.step hm ht ⟨[], [], [], [0, 4, 5], [0]⟩ 5 ⟨[(0, .one (.c (.d (.sl (.pair (.int .i64) (.pair (.int .i64) (.pair (.int .i64) (.slice (.int .u8))))) l)))), (4, .one (.c (.own 0 (.int .u8) r314_2))), (5, .one (.c (.d (.int .i64 0))))], [(0, some ⟨5, 0⟩)], [], 1⟩ [] (by kernel_rfl) trivial ?_
    refine At.step hm ht ⟨[], [], [], [4, 5, 18, 19, 20], [0]⟩ 6 ⟨[(4, .one (.c (.own 0 (.int .u8) r314_2))), (5, .one (.c (.d (.int .i64 0)))), (18, .one (.c (.d (.sl (.pair (.int .i64) (.pair (.int .i64) (.pair (.int .i64) (.slice (.int .u8))))) l)))), (19, .one (.c (.d (.int .i64 ((l.length : Nat) : Int))))), (20, .one (.c (.d (.int .i64 0))))], [(0, some ⟨5, 0⟩)], [], 1⟩ [] (by kernel_rfl) trivial ?_
    obtain ⟨w323, cw323, h⟩ := bindS h
    refine f20_capture_Encode_L6_ok n r314_2 0 l ((l.length : Nat) : Int) 0 w323 cw323 _ ?_
    show At Go.Proofs.Try.prog Go.Proofs.Try.f20 0 12 ⟨[(4, .one (.c (.own 0 (.int .u8) w323)))], [(0, some ⟨5, 0⟩)], [], 1⟩ _
    obtain ⟨r325_0, cr325_0, h⟩ := bindS h
    obtain ⟨r325_1, cr325_1, h⟩ := bindS h
    obtain ⟨r325_2, cr325_2, h⟩ := bindS h
    have h := Option.some.inj h
    subst h
    exact At.fin hm ht ⟨[(2, .call [] [] (f25_capture_Sum_out r325_0)), (3, .call [] [] (f79_pack_W_out r325_1)), (5, .call [] [] (f78_pack_Put_out r325_2))], [], [], [2, 3], [5]⟩ [FnOK Go.Proofs.Try.prog 25 (f25_capture_Sum_in w323) (f25_capture_Sum_out r325_0), FnOK Go.Proofs.Try.prog 79 (f79_pack_W_in r325_0) (f79_pack_W_out r325_1), FnOK Go.Proofs.Try.prog 78 (f78_pack_Put_in w323 [r325_1]) (f78_pack_Put_out r325_2)] (by kernel_rfl) ⟨(f25_capture_Sum_ok n w323 r325_0 cr325_0), (f79_pack_W_ok r325_0 r325_1 cr325_1), (f78_pack_Put_ok n w323 [r325_1] r325_2 cr325_2), trivial⟩
/-! brougham/pack.Get -/
def f84_pack_Get_in (b : List Int) (sizes : List Int) : Inn := ⟨[.c (.d (.sl (.int .u8) b)), .c (.d (.sl (.int .i64) sizes))], [], [], 0⟩
def f84_pack_Get_out (r : List Int × List Int × Bool) : Out := ⟨.tup [.c (.own 0 (.int .u64) r.1), .c (.own 1 (.int .u8) r.2.1), .c (.d (.bool r.2.2))], [(0, ⟨22, 0⟩), (1, ⟨5, 0⟩)], [], 2⟩
def f84_pack_Get_L9 : Nat → (List Int) → (List Int) → Int → Int → (List Int) → Int → Int → (List Int) → Int → Int → Option (List Int × List Int × Int × Int × List Int × Int × Int)
  | 0, _, _, _, _, _, _, _, _, _, _ => none
  | n + 1, b, out, n_, x, t13, t14, t15, t33, t34, t35 =>
    if (decide ((t35 : Int) < t34)) = true then
      if (0 : Int) ≤ t35 ∧ t35 < (((t33).length : Nat) : Int) then
      f84_pack_Get_L9 n b out n_ (bits .or .u64 (IntKind.wrap .u64 (x * 2 ^ 8)) (IntKind.wrap .u64 (t33.getD t35.toNat 0))) t13 t14 t15 t33 t34 (IntKind.wrap .i64 (t35 + 1))
      else none
    else
      some ((b, out, n_, x, t13, t14, t15))
def f84_pack_Get_L9_k (e : List Int × List Int × Int × Int × List Int × Int × Int) (o : Out) : Prop := At Go.Proofs.Try.prog Go.Proofs.Try.f84 0 13 ⟨[(0, .one (.c (.d (.sl (.int .u8) e.1)))), (7, .one (.c (.own 0 (.int .u64) e.2.1))), (9, .one (.c (.d (.int .i64 e.2.2.1)))), (10, .one (.c (.d (.int .u64 e.2.2.2.1)))), (13, .one (.c (.d (.sl (.int .i64) e.2.2.2.2.1)))), (14, .one (.c (.d (.int .i64 e.2.2.2.2.2.1)))), (15, .one (.c (.d (.int .i64 e.2.2.2.2.2.2))))], [(0, some ⟨22, 0⟩)], [], 1⟩ o
theorem f84_pack_Get_L9_ok (n : Nat) : ∀ (b : List Int) (out : List Int) (n_ : Int) (x : Int) (t13 : List Int) (t14 : Int) (t15 : Int) (t33 : List Int) (t34 : Int) (t35 : Int) (w : List Int × List Int × Int × Int × List Int × Int × Int) (h : f84_pack_Get_L9 n b out n_ x t13 t14 t15 t33 t34 t35 = some w) (o : Out) (hk : f84_pack_Get_L9_k w o), At Go.Proofs.Try.prog Go.Proofs.Try.f84 0 9 ⟨[(0, .one (.c (.d (.sl (.int .u8) b)))), (7, .one (.c (.own 0 (.int .u64) out))), (9, .one (.c (.d (.int .i64 n_)))), (10, .one (.c (.d (.int .u64 x)))), (13, .one (.c (.d (.sl (.int .i64) t13)))), (14, .one (.c (.d (.int .i64 t14)))), (15, .one (.c (.d (.int .i64 t15)))), (33, .one (.c (.d (.sl (.int .u8) t33)))), (34, .one (.c (.d (.int .i64 t34)))), (35, .one (.c (.d (.int .i64 t35))))], [(0, some ⟨22, 0⟩)], [], 1⟩ o := by
  induction n with
  | zero => intro b out n_ x t13 t14 t15 t33 t34 t35 w h; rw [f84_pack_Get_L9] at h; cases h
  | succ n ih =>
    intro b out n_ x t13 t14 t15 t33 t34 t35 w h o hk
    rw [f84_pack_Get_L9] at h
    rcases iteS h with ⟨b400_e0, h⟩ | ⟨b400_e0, h⟩
    · refine At.step hm ht ⟨[], [true], [], [0, 7, 9, 10, 13, 14, 15, 33, 34, 35], [0]⟩ 10 ⟨[(0, .one (.c (.d (.sl (.int .u8) b)))), (7, .one (.c (.own 0 (.int .u64) out))), (9, .one (.c (.d (.int .i64 n_)))), (10, .one (.c (.d (.int .u64 x)))), (13, .one (.c (.d (.sl (.int .i64) t13)))), (14, .one (.c (.d (.int .i64 t14)))), (15, .one (.c (.d (.int .i64 t15)))), (33, .one (.c (.d (.sl (.int .u8) t33)))), (34, .one (.c (.d (.int .i64 t34)))), (35, .one (.c (.d (.int .i64 t35))))], [(0, some ⟨22, 0⟩)], [], 1⟩ [(decide ((t35 : Int) < t34)) = true] (by kernel_rfl) ⟨b400_e0, trivial⟩ ?_
      obtain ⟨g401_0, h⟩ := ifS h
      refine At.step hm ht ⟨[], [], [], [0, 7, 9, 10, 12, 13, 14, 15, 33, 34, 35], [0]⟩ 11 ⟨[(0, .one (.c (.d (.sl (.int .u8) b)))), (7, .one (.c (.own 0 (.int .u64) out))), (9, .one (.c (.d (.int .i64 n_)))), (10, .one (.c (.d (.int .u64 x)))), (12, .one (.c (.d (.int .u8 (t33.getD t35.toNat 0))))), (13, .one (.c (.d (.sl (.int .i64) t13)))), (14, .one (.c (.d (.int .i64 t14)))), (15, .one (.c (.d (.int .i64 t15)))), (33, .one (.c (.d (.sl (.int .u8) t33)))), (34, .one (.c (.d (.int .i64 t34)))), (35, .one (.c (.d (.int .i64 t35))))], [(0, some ⟨22, 0⟩)], [], 1⟩ [(0 : Int) ≤ t35 ∧ t35 < (((t33).length : Nat) : Int)] (by kernel_rfl) ⟨g401_0, trivial⟩ ?_
      refine At.step hm ht ⟨[], [], [], [0, 7, 9, 10, 13, 14, 15, 33, 34, 35], [0]⟩ 12 ⟨[(0, .one (.c (.d (.sl (.int .u8) b)))), (7, .one (.c (.own 0 (.int .u64) out))), (9, .one (.c (.d (.int .i64 n_)))), (10, .one (.c (.d (.int .u64 (bits .or .u64 (IntKind.wrap .u64 (x * 2 ^ 8)) (IntKind.wrap .u64 (t33.getD t35.toNat 0))))))), (13, .one (.c (.d (.sl (.int .i64) t13)))), (14, .one (.c (.d (.int .i64 t14)))), (15, .one (.c (.d (.int .i64 t15)))), (33, .one (.c (.d (.sl (.int .u8) t33)))), (34, .one (.c (.d (.int .i64 t34)))), (35, .one (.c (.d (.int .i64 t35))))], [(0, some ⟨22, 0⟩)], [], 1⟩ [(0 : Int) ≤ 8] (by kernel_rfl) ⟨(by decide), trivial⟩ ?_
      refine At.step hm ht ⟨[], [], [], [0, 7, 9, 10, 13, 14, 15, 33, 34, 35], [0]⟩ 9 ⟨[(0, .one (.c (.d (.sl (.int .u8) b)))), (7, .one (.c (.own 0 (.int .u64) out))), (9, .one (.c (.d (.int .i64 n_)))), (10, .one (.c (.d (.int .u64 (bits .or .u64 (IntKind.wrap .u64 (x * 2 ^ 8)) (IntKind.wrap .u64 (t33.getD t35.toNat 0))))))), (13, .one (.c (.d (.sl (.int .i64) t13)))), (14, .one (.c (.d (.int .i64 t14)))), (15, .one (.c (.d (.int .i64 t15)))), (33, .one (.c (.d (.sl (.int .u8) t33)))), (34, .one (.c (.d (.int .i64 t34)))), (35, .one (.c (.d (.int .i64 (IntKind.wrap .i64 (t35 + 1))))))], [(0, some ⟨22, 0⟩)], [], 1⟩ [] (by kernel_rfl) trivial ?_
      exact ih b out n_ (bits .or .u64 (IntKind.wrap .u64 (x * 2 ^ 8)) (IntKind.wrap .u64 (t33.getD t35.toNat 0))) t13 t14 t15 t33 t34 (IntKind.wrap .i64 (t35 + 1)) w h o hk
    · refine At.step hm ht ⟨[], [false], [], [0, 7, 9, 10, 13, 14, 15], [0]⟩ 13 ⟨[(0, .one (.c (.d (.sl (.int .u8) b)))), (7, .one (.c (.own 0 (.int .u64) out))), (9, .one (.c (.d (.int .i64 n_)))), (10, .one (.c (.d (.int .u64 x)))), (13, .one (.c (.d (.sl (.int .i64) t13)))), (14, .one (.c (.d (.int .i64 t14)))), (15, .one (.c (.d (.int .i64 t15))))], [(0, some ⟨22, 0⟩)], [], 1⟩ [(decide ((t35 : Int) < t34)) = false] (by kernel_rfl) ⟨b400_e0, trivial⟩ ?_
      have h := Option.some.inj h
      subst h
      exact hk
def f84_pack_Get_L3 : Nat → (List Int) → (List Int) → (List Int) → Int → Int → Option ((List Int × List Int × Bool) ⊕ (List Int × List Int))
  | 0, _, _, _, _, _ => none
  | n + 1, b, out, t13, t14, t15 =>
    if (decide ((t15 : Int) < t14)) = true then
      if (0 : Int) ≤ t15 ∧ t15 < (((t13).length : Nat) : Int) then
      if (decide (((t13.getD t15.toNat 0) : Int) < 1)) = true then
        some (.inl ([], [], false))
      else
        if (decide (((t13.getD t15.toNat 0) : Int) > 8)) = true then
          some (.inl ([], [], false))
        else
          if (decide (((t13.getD t15.toNat 0) : Int) > ((b.length : Nat) : Int))) = true then
            some (.inl ([], [], false))
          else
            if cutOk b.length none (some (t13.getD t15.toNat 0)) none then
            (f84_pack_Get_L9 n b out (t13.getD t15.toNat 0) 0 t13 t14 t15 (b.take (t13.getD t15.toNat 0).toNat) (((b.take (t13.getD t15.toNat 0).toNat).length : Nat) : Int) 0).bind fun w404 =>
            if w404.2.1.length + [w404.2.2.2.1].length ≤ maxLen ∧ (w404.2.1.length + [w404.2.2.2.1].length) * 8 ≤ 140737488355328 then
            if cutOk w404.1.length (some w404.2.2.1) none none then
            f84_pack_Get_L3 n ((w404.1.take w404.1.length).drop w404.2.2.1.toNat) (w404.2.1 ++ [w404.2.2.2.1]) w404.2.2.2.2.1 w404.2.2.2.2.2.1 (IntKind.wrap .i64 (w404.2.2.2.2.2.2 + 1))
            else none
            else none
            else none
      else none
    else
      some (.inr ((b, out)))
def f84_pack_Get_L3_k (w : (List Int × List Int × Bool) ⊕ (List Int × List Int)) (o : Out) : Prop := match w with
  | .inl e => o = f84_pack_Get_out e
  | .inr e => At Go.Proofs.Try.prog Go.Proofs.Try.f84 0 16 ⟨[(0, .one (.c (.d (.sl (.int .u8) e.1)))), (7, .one (.c (.own 0 (.int .u64) e.2)))], [(0, some ⟨22, 0⟩)], [], 1⟩ o
theorem f84_pack_Get_L3_ok (n : Nat) : ∀ (b : List Int) (out : List Int) (t13 : List Int) (t14 : Int) (t15 : Int) (w : (List Int × List Int × Bool) ⊕ (List Int × List Int)) (h : f84_pack_Get_L3 n b out t13 t14 t15 = some w) (o : Out) (hk : f84_pack_Get_L3_k w o), At Go.Proofs.Try.prog Go.Proofs.Try.f84 0 3 ⟨[(0, .one (.c (.d (.sl (.int .u8) b)))), (7, .one (.c (.own 0 (.int .u64) out))), (13, .one (.c (.d (.sl (.int .i64) t13)))), (14, .one (.c (.d (.int .i64 t14)))), (15, .one (.c (.d (.int .i64 t15))))], [(0, some ⟨22, 0⟩)], [], 1⟩ o := by
  induction n with
  | zero => intro b out t13 t14 t15 w h; rw [f84_pack_Get_L3] at h; cases h
  | succ n ih =>
    intro b out t13 t14 t15 w h o hk
    rw [f84_pack_Get_L3] at h
    rcases iteS h with ⟨b392_e0, h⟩ | ⟨b392_e0, h⟩
    · refine At.step hm ht ⟨[], [true], [], [0, 7, 13, 14, 15], [0]⟩ 4 ⟨[(0, .one (.c (.d (.sl (.int .u8) b)))), (7, .one (.c (.own 0 (.int .u64) out))), (13, .one (.c (.d (.sl (.int .i64) t13)))), (14, .one (.c (.d (.int .i64 t14)))), (15, .one (.c (.d (.int .i64 t15))))], [(0, some ⟨22, 0⟩)], [], 1⟩ [(decide ((t15 : Int) < t14)) = true] (by kernel_rfl) ⟨b392_e0, trivial⟩ ?_
      obtain ⟨g393_0, h⟩ := ifS h
      refine At.step hm ht ⟨[], [], [], [0, 7, 9, 13, 14, 15], [0]⟩ 5 ⟨[(0, .one (.c (.d (.sl (.int .u8) b)))), (7, .one (.c (.own 0 (.int .u64) out))), (9, .one (.c (.d (.int .i64 (t13.getD t15.toNat 0))))), (13, .one (.c (.d (.sl (.int .i64) t13)))), (14, .one (.c (.d (.int .i64 t14)))), (15, .one (.c (.d (.int .i64 t15))))], [(0, some ⟨22, 0⟩)], [], 1⟩ [(0 : Int) ≤ t15 ∧ t15 < (((t13).length : Nat) : Int)] (by kernel_rfl) ⟨g393_0, trivial⟩ ?_
      rcases iteS h with ⟨b394_2, h⟩ | ⟨b394_2, h⟩
      · refine At.step hm ht ⟨[(2, .b true)], [true], [], [], []⟩ 6 ⟨[], [], [], 0⟩ [(decide (((t13.getD t15.toNat 0) : Int) < 1)) = true, true = true] (by kernel_rfl) ⟨b394_2, rfl, trivial⟩ ?_
        have h := Option.some.inj h
        subst h
        have hk : o = f84_pack_Get_out ([], [], false) := hk
        subst hk
        exact At.fin hm ht ⟨[], [], [.nil false 4 0 (.int .u64) (some 22), .nil false 5 0 (.int .u8) (some 5)], [4, 5, 6], [3, 4]⟩ [] (by kernel_rfl) trivial
      · rcases iteS h with ⟨b394_6, h⟩ | ⟨b394_6, h⟩
        · refine At.step hm ht ⟨[(2, .b false), (6, .b true)], [true], [], [], []⟩ 6 ⟨[], [], [], 0⟩ [(decide (((t13.getD t15.toNat 0) : Int) < 1)) = false, (decide (((t13.getD t15.toNat 0) : Int) > 8)) = true, true = true] (by kernel_rfl) ⟨b394_2, b394_6, rfl, trivial⟩ ?_
          have h := Option.some.inj h
          subst h
          have hk : o = f84_pack_Get_out ([], [], false) := hk
          subst hk
          exact At.fin hm ht ⟨[], [], [.nil false 4 0 (.int .u64) (some 22), .nil false 5 0 (.int .u8) (some 5)], [4, 5, 6], [3, 4]⟩ [] (by kernel_rfl) trivial
        · rcases iteS h with ⟨b394_e0, h⟩ | ⟨b394_e0, h⟩
          · refine At.step hm ht ⟨[(2, .b false), (6, .b false)], [true], [], [], []⟩ 6 ⟨[], [], [], 0⟩ [(decide (((t13.getD t15.toNat 0) : Int) < 1)) = false, (decide (((t13.getD t15.toNat 0) : Int) > 8)) = false, (decide (((t13.getD t15.toNat 0) : Int) > ((b.length : Nat) : Int))) = true] (by kernel_rfl) ⟨b394_2, b394_6, b394_e0, trivial⟩ ?_
            have h := Option.some.inj h
            subst h
            have hk : o = f84_pack_Get_out ([], [], false) := hk
            subst hk
            exact At.fin hm ht ⟨[], [], [.nil false 4 0 (.int .u64) (some 22), .nil false 5 0 (.int .u8) (some 5)], [4, 5, 6], [3, 4]⟩ [] (by kernel_rfl) trivial
          · refine At.step hm ht ⟨[(2, .b false), (6, .b false)], [false], [], [0, 7, 9, 13, 14, 15], [0]⟩ 7 ⟨[(0, .one (.c (.d (.sl (.int .u8) b)))), (7, .one (.c (.own 0 (.int .u64) out))), (9, .one (.c (.d (.int .i64 (t13.getD t15.toNat 0))))), (13, .one (.c (.d (.sl (.int .i64) t13)))), (14, .one (.c (.d (.int .i64 t14)))), (15, .one (.c (.d (.int .i64 t15))))], [(0, some ⟨22, 0⟩)], [], 1⟩ [(decide (((t13.getD t15.toNat 0) : Int) < 1)) = false, (decide (((t13.getD t15.toNat 0) : Int) > 8)) = false, (decide (((t13.getD t15.toNat 0) : Int) > ((b.length : Nat) : Int))) = false] (by kernel_rfl) ⟨b394_2, b394_6, b394_e0, trivial⟩ ?_
            refine At.step hm ht ⟨[], [], [], [0, 7, 9, 10, 13, 14, 15], [0]⟩ 8 ⟨[(0, .one (.c (.d (.sl (.int .u8) b)))), (7, .one (.c (.own 0 (.int .u64) out))), (9, .one (.c (.d (.int .i64 (t13.getD t15.toNat 0))))), (10, .one (.c (.d (.int .u64 0)))), (13, .one (.c (.d (.sl (.int .i64) t13)))), (14, .one (.c (.d (.int .i64 t14)))), (15, .one (.c (.d (.int .i64 t15))))], [(0, some ⟨22, 0⟩)], [], 1⟩ [] (by kernel_rfl) trivial ?_
            obtain ⟨g399_0, h⟩ := ifS h
            refine At.step hm ht ⟨[], [], [], [0, 7, 9, 10, 13, 14, 15, 33, 34, 35], [0]⟩ 9 ⟨[(0, .one (.c (.d (.sl (.int .u8) b)))), (7, .one (.c (.own 0 (.int .u64) out))), (9, .one (.c (.d (.int .i64 (t13.getD t15.toNat 0))))), (10, .one (.c (.d (.int .u64 0)))), (13, .one (.c (.d (.sl (.int .i64) t13)))), (14, .one (.c (.d (.int .i64 t14)))), (15, .one (.c (.d (.int .i64 t15)))), (33, .one (.c (.d (.sl (.int .u8) (b.take (t13.getD t15.toNat 0).toNat))))), (34, .one (.c (.d (.int .i64 (((b.take (t13.getD t15.toNat 0).toNat).length : Nat) : Int))))), (35, .one (.c (.d (.int .i64 0))))], [(0, some ⟨22, 0⟩)], [], 1⟩ [cutOk b.length none (some (t13.getD t15.toNat 0)) none] (by kernel_rfl) ⟨g399_0, trivial⟩ ?_
            obtain ⟨w404, cw404, h⟩ := bindS h
            refine f84_pack_Get_L9_ok n b out (t13.getD t15.toNat 0) 0 t13 t14 t15 (b.take (t13.getD t15.toNat 0).toNat) (((b.take (t13.getD t15.toNat 0).toNat).length : Nat) : Int) 0 w404 cw404 _ ?_
            show At Go.Proofs.Try.prog Go.Proofs.Try.f84 0 13 ⟨[(0, .one (.c (.d (.sl (.int .u8) w404.1)))), (7, .one (.c (.own 0 (.int .u64) w404.2.1))), (9, .one (.c (.d (.int .i64 w404.2.2.1)))), (10, .one (.c (.d (.int .u64 w404.2.2.2.1)))), (13, .one (.c (.d (.sl (.int .i64) w404.2.2.2.2.1)))), (14, .one (.c (.d (.int .i64 w404.2.2.2.2.2.1)))), (15, .one (.c (.d (.int .i64 w404.2.2.2.2.2.2))))], [(0, some ⟨22, 0⟩)], [], 1⟩ _
            obtain ⟨g406_0, h⟩ := ifS h
            refine At.step hm ht ⟨[], [], [], [0, 7, 9, 13, 14, 15], [4]⟩ 14 ⟨[(0, .one (.c (.d (.sl (.int .u8) w404.1)))), (7, .one (.c (.own 0 (.int .u64) (w404.2.1 ++ [w404.2.2.2.1])))), (9, .one (.c (.d (.int .i64 w404.2.2.1)))), (13, .one (.c (.d (.sl (.int .i64) w404.2.2.2.2.1)))), (14, .one (.c (.d (.int .i64 w404.2.2.2.2.2.1)))), (15, .one (.c (.d (.int .i64 w404.2.2.2.2.2.2))))], [(0, some ⟨22, 0⟩)], [], 1⟩ [w404.2.1.length + [w404.2.2.2.1].length ≤ maxLen ∧ (w404.2.1.length + [w404.2.2.2.1].length) * 8 ≤ 140737488355328] (by kernel_rfl) ⟨g406_0, trivial⟩ ?_
            obtain ⟨g407_0, h⟩ := ifS h
            refine At.step hm ht ⟨[], [], [], [0, 7, 13, 14, 15], [0]⟩ 15 ⟨[(0, .one (.c (.d (.sl (.int .u8) ((w404.1.take w404.1.length).drop w404.2.2.1.toNat))))), (7, .one (.c (.own 0 (.int .u64) (w404.2.1 ++ [w404.2.2.2.1])))), (13, .one (.c (.d (.sl (.int .i64) w404.2.2.2.2.1)))), (14, .one (.c (.d (.int .i64 w404.2.2.2.2.2.1)))), (15, .one (.c (.d (.int .i64 w404.2.2.2.2.2.2))))], [(0, some ⟨22, 0⟩)], [], 1⟩ [cutOk w404.1.length (some w404.2.2.1) none none] (by kernel_rfl) ⟨g407_0, trivial⟩ ?_
            refine At.step hm ht ⟨[], [], [], [0, 7, 13, 14, 15], [0]⟩ 3 ⟨[(0, .one (.c (.d (.sl (.int .u8) ((w404.1.take w404.1.length).drop w404.2.2.1.toNat))))), (7, .one (.c (.own 0 (.int .u64) (w404.2.1 ++ [w404.2.2.2.1])))), (13, .one (.c (.d (.sl (.int .i64) w404.2.2.2.2.1)))), (14, .one (.c (.d (.int .i64 w404.2.2.2.2.2.1)))), (15, .one (.c (.d (.int .i64 (IntKind.wrap .i64 (w404.2.2.2.2.2.2 + 1))))))], [(0, some ⟨22, 0⟩)], [], 1⟩ [] (by kernel_rfl) trivial ?_
            exact ih ((w404.1.take w404.1.length).drop w404.2.2.1.toNat) (w404.2.1 ++ [w404.2.2.2.1]) w404.2.2.2.2.1 w404.2.2.2.2.2.1 (IntKind.wrap .i64 (w404.2.2.2.2.2.2 + 1)) w h o hk
    · refine At.step hm ht ⟨[], [false], [], [0, 7], [0]⟩ 16 ⟨[(0, .one (.c (.d (.sl (.int .u8) b)))), (7, .one (.c (.own 0 (.int .u64) out)))], [(0, some ⟨22, 0⟩)], [], 1⟩ [(decide ((t15 : Int) < t14)) = false] (by kernel_rfl) ⟨b392_e0, trivial⟩ ?_
      have h := Option.some.inj h
      subst h
      exact hk
def f84_pack_Get (n : Nat) (b : List Int) (sizes : List Int) : Option (List Int × List Int × Bool) :=
  (f84_pack_Get_L3 n b [] sizes ((sizes.length : Nat) : Int) 0).bind fun w409 =>
  match w409 with
  | .inl e410 =>
    some (e410.1, e410.2.1, e410.2.2)
  | .inr e411 =>
    if e411.1.length ≤ maxLen ∧ e411.1.length * 1 ≤ 140737488355328 then
    some (e411.2, e411.1, true)
    else none
theorem f84_pack_Get_ok (n : Nat) (b : List Int) (sizes : List Int) (r : List Int × List Int × Bool) (h : f84_pack_Get n b sizes = some r) : FnOK Go.Proofs.Try.prog 84 (f84_pack_Get_in b sizes) (f84_pack_Get_out r) := by
  unfold f84_pack_Get at h
  refine At.fn (r := 0) Go.Proofs.Try.func84 rfl (by kernel_rfl) rfl rfl (by kernel_rfl) ?_
  show At Go.Proofs.Try.prog Go.Proofs.Try.f84 0 0 ⟨[(0, .one (.c (.d (.sl (.int .u8) b)))), (1, .one (.c (.d (.sl (.int .i64) sizes))))], [], [], 0⟩ _
  refine At.step hm ht ⟨[], [], [], [0, 1], []⟩ 1 ⟨[(0, .one (.c (.d (.sl (.int .u8) b)))), (1, .one (.c (.d (.sl (.int .i64) sizes))))], [], [], 0⟩ [] (by kernel_rfl) trivial ?_
  refine At.step hm ht ⟨[], [], [], [0, 1, 7], []⟩ 2 ⟨[(0, .one (.c (.d (.sl (.int .u8) b)))), (1, .one (.c (.d (.sl (.int .i64) sizes)))), (7, .one (.c (.d (.sl .unit []))))], [], [], 0⟩ [] (by kernel_rfl) trivial ?_
  refine At.step hm ht ⟨[], [], [.nil false 7 0 (.int .u64) (some 22)], [0, 7, 13, 14, 15], [3]⟩ 3 ⟨[(0, .one (.c (.d (.sl (.int .u8) b)))), (7, .one (.c (.own 0 (.int .u64) []))), (13, .one (.c (.d (.sl (.int .i64) sizes)))), (14, .one (.c (.d (.int .i64 ((sizes.length : Nat) : Int))))), (15, .one (.c (.d (.int .i64 0))))], [(0, some ⟨22, 0⟩)], [], 1⟩ [] (by kernel_rfl) trivial ?_
  obtain ⟨w409, cw409, h⟩ := bindS h
  refine f84_pack_Get_L3_ok n b [] sizes ((sizes.length : Nat) : Int) 0 w409 cw409 _ ?_
  rcases w409 with e410 | e411
  · have h := Option.some.inj h
    subst h
    rfl
  · show At Go.Proofs.Try.prog Go.Proofs.Try.f84 0 16 ⟨[(0, .one (.c (.d (.sl (.int .u8) e411.1)))), (7, .one (.c (.own 0 (.int .u64) e411.2)))], [(0, some ⟨22, 0⟩)], [], 1⟩ _
    obtain ⟨g412_0, h⟩ := ifS h
    have h := Option.some.inj h
    subst h
    exact At.fin hm ht ⟨[], [], [], [4, 5, 6], [0, 3]⟩ [e411.1.length ≤ maxLen ∧ e411.1.length * 1 ≤ 140737488355328] (by kernel_rfl) ⟨g412_0, trivial⟩
/-! brougham/pack.All -/
def f83_pack_All_in (b : List Int) (sizes : List Int) : Inn := ⟨[.c (.d (.sl (.int .u8) b)), .c (.d (.sl (.int .i64) sizes))], [], [], 0⟩
def f83_pack_All_out (r : List Int × Bool) : Out := ⟨.tup [.c (.own 0 (.int .u64) r.1), .c (.d (.bool r.2))], [(0, ⟨22, 0⟩)], [], 1⟩
def f83_pack_All (n : Nat) (b : List Int) (sizes : List Int) : Option (List Int × Bool) :=
  (f84_pack_Get n b sizes).bind fun r418_0 =>
  if (!r418_0.2.2) = true then
    some ([], false)
  else
    if (decide ((((r418_0.2.1.length : Nat) : Int) : Int) > 0)) = true then
      some ([], false)
    else
      some (r418_0.1, true)
theorem f83_pack_All_ok (n : Nat) (b : List Int) (sizes : List Int) (r : List Int × Bool) (h : f83_pack_All n b sizes = some r) : FnOK Go.Proofs.Try.prog 83 (f83_pack_All_in b sizes) (f83_pack_All_out r) := by
  unfold f83_pack_All at h
  refine At.fn (r := 0) Go.Proofs.Try.func83 rfl (by kernel_rfl) rfl rfl (by kernel_rfl) ?_
  show At Go.Proofs.Try.prog Go.Proofs.Try.f83 0 0 ⟨[(0, .one (.c (.d (.sl (.int .u8) b)))), (1, .one (.c (.d (.sl (.int .i64) sizes))))], [], [], 0⟩ _
  refine At.step hm ht ⟨[], [], [], [0, 1], []⟩ 1 ⟨[(0, .one (.c (.d (.sl (.int .u8) b)))), (1, .one (.c (.d (.sl (.int .i64) sizes))))], [], [], 0⟩ [] (by kernel_rfl) trivial ?_
  obtain ⟨r418_0, cr418_0, h⟩ := bindS h
  refine At.step hm ht ⟨[(2, .call [] [] (f84_pack_Get_out r418_0))], [], [], [6, 7, 8], [2, 3]⟩ 2 ⟨[(6, .one (.c (.own 0 (.int .u64) r418_0.1))), (7, .one (.c (.own 1 (.int .u8) r418_0.2.1))), (8, .one (.c (.d (.bool r418_0.2.2))))], [(0, some ⟨22, 0⟩), (1, some ⟨5, 0⟩)], [], 2⟩ [FnOK Go.Proofs.Try.prog 84 (f84_pack_Get_in b sizes) (f84_pack_Get_out r418_0)] (by kernel_rfl) ⟨(f84_pack_Get_ok n b sizes r418_0 cr418_0), trivial⟩ ?_
  rcases iteS h with ⟨b419_2, h⟩ | ⟨b419_2, h⟩
  · refine At.step hm ht ⟨[(2, .b true)], [true], [], [], []⟩ 3 ⟨[], [], [], 0⟩ [(!r418_0.2.2) = true, true = true] (by kernel_rfl) ⟨b419_2, rfl, trivial⟩ ?_
    have h := Option.some.inj h
    subst h
    exact At.fin hm ht ⟨[], [], [.nil false 4 0 (.int .u64) (some 22)], [4, 5], [2]⟩ [] (by kernel_rfl) trivial
  · rcases iteS h with ⟨b419_e0, h⟩ | ⟨b419_e0, h⟩
    · refine At.step hm ht ⟨[(2, .b false)], [true], [], [], []⟩ 3 ⟨[], [], [], 0⟩ [(!r418_0.2.2) = false, (decide ((((r418_0.2.1.length : Nat) : Int) : Int) > 0)) = true] (by kernel_rfl) ⟨b419_2, b419_e0, trivial⟩ ?_
      have h := Option.some.inj h
      subst h
      exact At.fin hm ht ⟨[], [], [.nil false 4 0 (.int .u64) (some 22)], [4, 5], [2]⟩ [] (by kernel_rfl) trivial
    · refine At.step hm ht ⟨[(2, .b false)], [false], [], [6], [0]⟩ 4 ⟨[(6, .one (.c (.own 0 (.int .u64) r418_0.1)))], [(0, some ⟨22, 0⟩)], [], 1⟩ [(!r418_0.2.2) = false, (decide ((((r418_0.2.1.length : Nat) : Int) : Int) > 0)) = false] (by kernel_rfl) ⟨b419_2, b419_e0, trivial⟩ ?_
      have h := Option.some.inj h
      subst h
      exact At.fin hm ht ⟨[], [], [], [4, 5], [0]⟩ [] (by kernel_rfl) trivial
/-! brougham/capture.Decode -/
def f28_capture_Decode_in (b : List Int) : Inn := ⟨[.c (.d (.sl (.int .u8) b))], [], [], 0⟩
def f28_capture_Decode_out (r : (List (Int × Int × Int × List Int)) × Bool) : Out := ⟨.tup [.c (.own 0 (.pair (.int .i64) (.pair (.int .i64) (.pair (.int .i64) (.slice (.int .u8))))) r.1), .c (.d (.bool r.2))], [(0, ⟨82, 0⟩)], [], 1⟩
def f28_capture_Decode_L13 : Nat → (List Int) → (List (Int × Int × Int × List Int)) → Int → Int → Int → Option (((List (Int × Int × Int × List Int)) × Bool) ⊕ (List Int × List (Int × Int × Int × List Int)))
  | 0, _, _, _, _, _ => none
  | n + 1, rest_, out, tick, t67, t68 =>
    if (decide ((t68 : Int) < t67)) = true then
      (f84_pack_Get n rest_ [4, 1, 2]).bind fun r496_0 =>
      if (!r496_0.2.2) = true then
        some (.inl ([], false))
      else
        if (0 : Int) ≤ 2 ∧ 2 < (((r496_0.1).length : Nat) : Int) then
        if (decide (((IntKind.wrap .i64 (r496_0.1.getD 2 0)) : Int) > ((r496_0.2.1.length : Nat) : Int))) = true then
          some (.inl ([], false))
        else
          if (0 : Int) ≤ 0 ∧ 0 < (((r496_0.1).length : Nat) : Int) then
          if (decide (((r496_0.1.getD 0 0) : Int) ≥ 2147483648)) = true then
            some (.inl ([], false))
          else
            if (0 : Int) ≤ 0 ∧ 0 < (((r496_0.1).length : Nat) : Int) then
            if (0 : Int) ≤ 2 ∧ 2 < (((r496_0.1).length : Nat) : Int) then
            if (0 : Int) ≤ 1 ∧ 1 < (((r496_0.1).length : Nat) : Int) then
            if (0 : Int) ≤ 1 ∧ 1 < (((r496_0.1).length : Nat) : Int) then
            if cutOk r496_0.2.1.length none (some (IntKind.wrap .i64 (r496_0.1.getD 2 0))) none then
            if (r496_0.2.1.take (IntKind.wrap .i64 (r496_0.1.getD 2 0)).toNat).length ≤ maxLen ∧ (r496_0.2.1.take (IntKind.wrap .i64 (r496_0.1.getD 2 0)).toNat).length * 1 ≤ 140737488355328 then
            if out.length + [((IntKind.wrap .i64 (tick + (IntKind.wrap .i64 (r496_0.1.getD 0 0)))), ((IntKind.wrap .i64 (Int.fdiv (r496_0.1.getD 1 0) (2 ^ 7))), ((IntKind.wrap .i64 (bits .and .u64 (r496_0.1.getD 1 0) 127)), (r496_0.2.1.take (IntKind.wrap .i64 (r496_0.1.getD 2 0)).toNat))))].length ≤ maxLen ∧ (out.length + [((IntKind.wrap .i64 (tick + (IntKind.wrap .i64 (r496_0.1.getD 0 0)))), ((IntKind.wrap .i64 (Int.fdiv (r496_0.1.getD 1 0) (2 ^ 7))), ((IntKind.wrap .i64 (bits .and .u64 (r496_0.1.getD 1 0) 127)), (r496_0.2.1.take (IntKind.wrap .i64 (r496_0.1.getD 2 0)).toNat))))].length) * 48 ≤ 140737488355328 then
            if cutOk r496_0.2.1.length (some (IntKind.wrap .i64 (r496_0.1.getD 2 0))) none none then
            f28_capture_Decode_L13 n ((r496_0.2.1.take r496_0.2.1.length).drop (IntKind.wrap .i64 (r496_0.1.getD 2 0)).toNat) (out ++ [((IntKind.wrap .i64 (tick + (IntKind.wrap .i64 (r496_0.1.getD 0 0)))), ((IntKind.wrap .i64 (Int.fdiv (r496_0.1.getD 1 0) (2 ^ 7))), ((IntKind.wrap .i64 (bits .and .u64 (r496_0.1.getD 1 0) 127)), (r496_0.2.1.take (IntKind.wrap .i64 (r496_0.1.getD 2 0)).toNat))))]) (IntKind.wrap .i64 (tick + (IntKind.wrap .i64 (r496_0.1.getD 0 0)))) t67 (IntKind.wrap .u64 (t68 + 1))
            else none
            else none
            else none
            else none
            else none
            else none
            else none
            else none
          else none
        else none
    else
      some (.inr ((rest_, out)))
def f28_capture_Decode_L13_k (w : ((List (Int × Int × Int × List Int)) × Bool) ⊕ (List Int × List (Int × Int × Int × List Int))) (o : Out) : Prop := match w with
  | .inl e => o = f28_capture_Decode_out e
  | .inr e => At Go.Proofs.Try.prog Go.Proofs.Try.f28 0 22 ⟨[(8, .one (.c (.d (.sl (.int .u8) e.1)))), (9, .one (.c (.own 0 (.pair (.int .i64) (.pair (.int .i64) (.pair (.int .i64) (.slice (.int .u8))))) e.2)))], [(0, some ⟨82, 0⟩)], [], 1⟩ o
theorem f28_capture_Decode_L13_ok (n : Nat) : ∀ (rest_ : List Int) (out : List (Int × Int × Int × List Int)) (tick : Int) (t67 : Int) (t68 : Int) (w : ((List (Int × Int × Int × List Int)) × Bool) ⊕ (List Int × List (Int × Int × Int × List Int))) (h : f28_capture_Decode_L13 n rest_ out tick t67 t68 = some w) (o : Out) (hk : f28_capture_Decode_L13_k w o), At Go.Proofs.Try.prog Go.Proofs.Try.f28 0 13 ⟨[(8, .one (.c (.d (.sl (.int .u8) rest_)))), (9, .one (.c (.own 0 (.pair (.int .i64) (.pair (.int .i64) (.pair (.int .i64) (.slice (.int .u8))))) out))), (10, .one (.c (.d (.int .i64 tick)))), (67, .one (.c (.d (.int .u64 t67)))), (68, .one (.c (.d (.int .u64 t68))))], [(0, some ⟨82, 0⟩)], [], 1⟩ o := by
  induction n with
  | zero => intro rest_ out tick t67 t68 w h; rw [f28_capture_Decode_L13] at h; cases h
  | succ n ih =>
    intro rest_ out tick t67 t68 w h o hk
    rw [f28_capture_Decode_L13] at h
    rcases iteS h with ⟨b495_e0, h⟩ | ⟨b495_e0, h⟩
    · refine At.step hm ht ⟨[], [true], [], [8, 9, 10, 67, 68], [0]⟩ 14 ⟨[(8, .one (.c (.d (.sl (.int .u8) rest_)))), (9, .one (.c (.own 0 (.pair (.int .i64) (.pair (.int .i64) (.pair (.int .i64) (.slice (.int .u8))))) out))), (10, .one (.c (.d (.int .i64 tick)))), (67, .one (.c (.d (.int .u64 t67)))), (68, .one (.c (.d (.int .u64 t68))))], [(0, some ⟨82, 0⟩)], [], 1⟩ [(decide ((t68 : Int) < t67)) = true] (by kernel_rfl) ⟨b495_e0, trivial⟩ ?_
      obtain ⟨r496_0, cr496_0, h⟩ := bindS h
      refine At.step hm ht ⟨[(2, .call [] [] (f84_pack_Get_out r496_0))], [], [], [9, 10, 11, 12, 13, 67, 68], [0, 3, 4]⟩ 15 ⟨[(9, .one (.c (.own 0 (.pair (.int .i64) (.pair (.int .i64) (.pair (.int .i64) (.slice (.int .u8))))) out))), (10, .one (.c (.d (.int .i64 tick)))), (11, .one (.c (.own 1 (.int .u64) r496_0.1))), (12, .one (.c (.own 2 (.int .u8) r496_0.2.1))), (13, .one (.c (.d (.bool r496_0.2.2)))), (67, .one (.c (.d (.int .u64 t67)))), (68, .one (.c (.d (.int .u64 t68))))], [(0, some ⟨82, 0⟩), (1, some ⟨22, 0⟩), (2, some ⟨5, 0⟩)], [], 3⟩ [FnOK Go.Proofs.Try.prog 84 (f84_pack_Get_in rest_ [4, 1, 2]) (f84_pack_Get_out r496_0)] (by kernel_rfl) ⟨(f84_pack_Get_ok n rest_ [4, 1, 2] r496_0 cr496_0), trivial⟩ ?_
      rcases iteS h with ⟨b497_2, h⟩ | ⟨b497_2, h⟩
      · refine At.step hm ht ⟨[(2, .b true)], [true], [], [], []⟩ 16 ⟨[], [], [], 0⟩ [(!r496_0.2.2) = true, true = true] (by kernel_rfl) ⟨b497_2, rfl, trivial⟩ ?_
        have h := Option.some.inj h
        subst h
        have hk : o = f28_capture_Decode_out ([], false) := hk
        subst hk
        exact At.fin hm ht ⟨[], [], [.nil false 2 0 (.pair (.int .i64) (.pair (.int .i64) (.pair (.int .i64) (.slice (.int .u8))))) (some 82)], [2, 3], [2]⟩ [] (by kernel_rfl) trivial
      · obtain ⟨g497_0, h⟩ := ifS h
        rcases iteS h with ⟨b497_11, h⟩ | ⟨b497_11, h⟩
        · refine At.step hm ht ⟨[(2, .b false), (11, .b true)], [true], [], [], []⟩ 16 ⟨[], [], [], 0⟩ [(!r496_0.2.2) = false, (0 : Int) ≤ 2 ∧ 2 < (((r496_0.1).length : Nat) : Int), (decide (((IntKind.wrap .i64 (r496_0.1.getD 2 0)) : Int) > ((r496_0.2.1.length : Nat) : Int))) = true, true = true] (by kernel_rfl) ⟨b497_2, g497_0, b497_11, rfl, trivial⟩ ?_
          have h := Option.some.inj h
          subst h
          have hk : o = f28_capture_Decode_out ([], false) := hk
          subst hk
          exact At.fin hm ht ⟨[], [], [.nil false 2 0 (.pair (.int .i64) (.pair (.int .i64) (.pair (.int .i64) (.slice (.int .u8))))) (some 82)], [2, 3], [2]⟩ [] (by kernel_rfl) trivial
        · obtain ⟨g497_1, h⟩ := ifS h
          rcases iteS h with ⟨b497_e0, h⟩ | ⟨b497_e0, h⟩
          · refine At.step hm ht ⟨[(2, .b false), (11, .b false)], [true], [], [], []⟩ 16 ⟨[], [], [], 0⟩ [(!r496_0.2.2) = false, (0 : Int) ≤ 2 ∧ 2 < (((r496_0.1).length : Nat) : Int), (decide (((IntKind.wrap .i64 (r496_0.1.getD 2 0)) : Int) > ((r496_0.2.1.length : Nat) : Int))) = false, (0 : Int) ≤ 0 ∧ 0 < (((r496_0.1).length : Nat) : Int), (decide (((r496_0.1.getD 0 0) : Int) ≥ 2147483648)) = true] (by kernel_rfl) ⟨b497_2, g497_0, b497_11, g497_1, b497_e0, trivial⟩ ?_
            have h := Option.some.inj h
            subst h
            have hk : o = f28_capture_Decode_out ([], false) := hk
            subst hk
            exact At.fin hm ht ⟨[], [], [.nil false 2 0 (.pair (.int .i64) (.pair (.int .i64) (.pair (.int .i64) (.slice (.int .u8))))) (some 82)], [2, 3], [2]⟩ [] (by kernel_rfl) trivial
          · refine At.step hm ht ⟨[(2, .b false), (11, .b false)], [false], [], [9, 10, 11, 12, 67, 68], [0, 1, 2]⟩ 17 ⟨[(9, .one (.c (.own 0 (.pair (.int .i64) (.pair (.int .i64) (.pair (.int .i64) (.slice (.int .u8))))) out))), (10, .one (.c (.d (.int .i64 tick)))), (11, .one (.c (.own 1 (.int .u64) r496_0.1))), (12, .one (.c (.own 2 (.int .u8) r496_0.2.1))), (67, .one (.c (.d (.int .u64 t67)))), (68, .one (.c (.d (.int .u64 t68))))], [(0, some ⟨82, 0⟩), (1, some ⟨22, 0⟩), (2, some ⟨5, 0⟩)], [], 3⟩ [(!r496_0.2.2) = false, (0 : Int) ≤ 2 ∧ 2 < (((r496_0.1).length : Nat) : Int), (decide (((IntKind.wrap .i64 (r496_0.1.getD 2 0)) : Int) > ((r496_0.2.1.length : Nat) : Int))) = false, (0 : Int) ≤ 0 ∧ 0 < (((r496_0.1).length : Nat) : Int), (decide (((r496_0.1.getD 0 0) : Int) ≥ 2147483648)) = false] (by kernel_rfl) ⟨b497_2, g497_0, b497_11, g497_1, b497_e0, trivial⟩ ?_
            obtain ⟨g501_0, h⟩ := ifS h
            refine At.step hm ht ⟨[], [], [], [9, 10, 11, 12, 67, 68], [0, 1, 2]⟩ 18 ⟨[(9, .one (.c (.own 0 (.pair (.int .i64) (.pair (.int .i64) (.pair (.int .i64) (.slice (.int .u8))))) out))), (10, .one (.c (.d (.int .i64 (IntKind.wrap .i64 (tick + (IntKind.wrap .i64 (r496_0.1.getD 0 0)))))))), (11, .one (.c (.own 1 (.int .u64) r496_0.1))), (12, .one (.c (.own 2 (.int .u8) r496_0.2.1))), (67, .one (.c (.d (.int .u64 t67)))), (68, .one (.c (.d (.int .u64 t68))))], [(0, some ⟨82, 0⟩), (1, some ⟨22, 0⟩), (2, some ⟨5, 0⟩)], [], 3⟩ [(0 : Int) ≤ 0 ∧ 0 < (((r496_0.1).length : Nat) : Int)] (by kernel_rfl) ⟨g501_0, trivial⟩ ?_
            obtain ⟨g502_0, h⟩ := ifS h
            refine At.step hm ht ⟨[], [], [], [9, 10, 11, 12, 14, 67, 68], [0, 1, 2]⟩ 19 ⟨[(9, .one (.c (.own 0 (.pair (.int .i64) (.pair (.int .i64) (.pair (.int .i64) (.slice (.int .u8))))) out))), (10, .one (.c (.d (.int .i64 (IntKind.wrap .i64 (tick + (IntKind.wrap .i64 (r496_0.1.getD 0 0)))))))), (11, .one (.c (.own 1 (.int .u64) r496_0.1))), (12, .one (.c (.own 2 (.int .u8) r496_0.2.1))), (14, .one (.c (.d (.int .i64 (IntKind.wrap .i64 (r496_0.1.getD 2 0)))))), (67, .one (.c (.d (.int .u64 t67)))), (68, .one (.c (.d (.int .u64 t68))))], [(0, some ⟨82, 0⟩), (1, some ⟨22, 0⟩), (2, some ⟨5, 0⟩)], [], 3⟩ [(0 : Int) ≤ 2 ∧ 2 < (((r496_0.1).length : Nat) : Int)] (by kernel_rfl) ⟨g502_0, trivial⟩ ?_
            obtain ⟨g503_0, h⟩ := ifS h
            obtain ⟨g503_1, h⟩ := ifS h
            obtain ⟨g503_2, h⟩ := ifS h
            obtain ⟨g503_3, h⟩ := ifS h
            obtain ⟨g503_4, h⟩ := ifS h
            refine At.step hm ht ⟨[], [], [], [9, 10, 12, 14, 67, 68], [21, 2]⟩ 20 ⟨[(9, .one (.c (.own 0 (.pair (.int .i64) (.pair (.int .i64) (.pair (.int .i64) (.slice (.int .u8))))) (out ++ [((IntKind.wrap .i64 (tick + (IntKind.wrap .i64 (r496_0.1.getD 0 0)))), ((IntKind.wrap .i64 (Int.fdiv (r496_0.1.getD 1 0) (2 ^ 7))), ((IntKind.wrap .i64 (bits .and .u64 (r496_0.1.getD 1 0) 127)), (r496_0.2.1.take (IntKind.wrap .i64 (r496_0.1.getD 2 0)).toNat))))])))), (10, .one (.c (.d (.int .i64 (IntKind.wrap .i64 (tick + (IntKind.wrap .i64 (r496_0.1.getD 0 0)))))))), (12, .one (.c (.own 1 (.int .u8) r496_0.2.1))), (14, .one (.c (.d (.int .i64 (IntKind.wrap .i64 (r496_0.1.getD 2 0)))))), (67, .one (.c (.d (.int .u64 t67)))), (68, .one (.c (.d (.int .u64 t68))))], [(0, some ⟨82, 0⟩), (1, some ⟨5, 0⟩)], [], 2⟩ [(0 : Int) ≤ 1 ∧ 1 < (((r496_0.1).length : Nat) : Int), (0 : Int) ≤ 7, (0 : Int) ≤ 1 ∧ 1 < (((r496_0.1).length : Nat) : Int), cutOk r496_0.2.1.length none (some (IntKind.wrap .i64 (r496_0.1.getD 2 0))) none, (r496_0.2.1.take (IntKind.wrap .i64 (r496_0.1.getD 2 0)).toNat).length ≤ maxLen ∧ (r496_0.2.1.take (IntKind.wrap .i64 (r496_0.1.getD 2 0)).toNat).length * 1 ≤ 140737488355328, out.length + [((IntKind.wrap .i64 (tick + (IntKind.wrap .i64 (r496_0.1.getD 0 0)))), ((IntKind.wrap .i64 (Int.fdiv (r496_0.1.getD 1 0) (2 ^ 7))), ((IntKind.wrap .i64 (bits .and .u64 (r496_0.1.getD 1 0) 127)), (r496_0.2.1.take (IntKind.wrap .i64 (r496_0.1.getD 2 0)).toNat))))].length ≤ maxLen ∧ (out.length + [((IntKind.wrap .i64 (tick + (IntKind.wrap .i64 (r496_0.1.getD 0 0)))), ((IntKind.wrap .i64 (Int.fdiv (r496_0.1.getD 1 0) (2 ^ 7))), ((IntKind.wrap .i64 (bits .and .u64 (r496_0.1.getD 1 0) 127)), (r496_0.2.1.take (IntKind.wrap .i64 (r496_0.1.getD 2 0)).toNat))))].length) * 48 ≤ 140737488355328] (by kernel_rfl) ⟨g503_0, (by decide), g503_1, g503_2, g503_3, g503_4, trivial⟩ ?_
            obtain ⟨g504_0, h⟩ := ifS h
            refine At.step hm ht ⟨[], [], [], [8, 9, 10, 67, 68], [0]⟩ 21 ⟨[(8, .one (.c (.d (.sl (.int .u8) ((r496_0.2.1.take r496_0.2.1.length).drop (IntKind.wrap .i64 (r496_0.1.getD 2 0)).toNat))))), (9, .one (.c (.own 0 (.pair (.int .i64) (.pair (.int .i64) (.pair (.int .i64) (.slice (.int .u8))))) (out ++ [((IntKind.wrap .i64 (tick + (IntKind.wrap .i64 (r496_0.1.getD 0 0)))), ((IntKind.wrap .i64 (Int.fdiv (r496_0.1.getD 1 0) (2 ^ 7))), ((IntKind.wrap .i64 (bits .and .u64 (r496_0.1.getD 1 0) 127)), (r496_0.2.1.take (IntKind.wrap .i64 (r496_0.1.getD 2 0)).toNat))))])))), (10, .one (.c (.d (.int .i64 (IntKind.wrap .i64 (tick + (IntKind.wrap .i64 (r496_0.1.getD 0 0)))))))), (67, .one (.c (.d (.int .u64 t67)))), (68, .one (.c (.d (.int .u64 t68))))], [(0, some ⟨82, 0⟩)], [], 1⟩ [cutOk r496_0.2.1.length (some (IntKind.wrap .i64 (r496_0.1.getD 2 0))) none none] (by kernel_rfl) ⟨g504_0, trivial⟩ ?_
            refine At.step hm ht ⟨[], [], [], [8, 9, 10, 67, 68], [0]⟩ 13 ⟨[(8, .one (.c (.d (.sl (.int .u8) ((r496_0.2.1.take r496_0.2.1.length).drop (IntKind.wrap .i64 (r496_0.1.getD 2 0)).toNat))))), (9, .one (.c (.own 0 (.pair (.int .i64) (.pair (.int .i64) (.pair (.int .i64) (.slice (.int .u8))))) (out ++ [((IntKind.wrap .i64 (tick + (IntKind.wrap .i64 (r496_0.1.getD 0 0)))), ((IntKind.wrap .i64 (Int.fdiv (r496_0.1.getD 1 0) (2 ^ 7))), ((IntKind.wrap .i64 (bits .and .u64 (r496_0.1.getD 1 0) 127)), (r496_0.2.1.take (IntKind.wrap .i64 (r496_0.1.getD 2 0)).toNat))))])))), (10, .one (.c (.d (.int .i64 (IntKind.wrap .i64 (tick + (IntKind.wrap .i64 (r496_0.1.getD 0 0)))))))), (67, .one (.c (.d (.int .u64 t67)))), (68, .one (.c (.d (.int .u64 (IntKind.wrap .u64 (t68 + 1))))))], [(0, some ⟨82, 0⟩)], [], 1⟩ [] (by kernel_rfl) trivial ?_
            exact ih ((r496_0.2.1.take r496_0.2.1.length).drop (IntKind.wrap .i64 (r496_0.1.getD 2 0)).toNat) (out ++ [((IntKind.wrap .i64 (tick + (IntKind.wrap .i64 (r496_0.1.getD 0 0)))), ((IntKind.wrap .i64 (Int.fdiv (r496_0.1.getD 1 0) (2 ^ 7))), ((IntKind.wrap .i64 (bits .and .u64 (r496_0.1.getD 1 0) 127)), (r496_0.2.1.take (IntKind.wrap .i64 (r496_0.1.getD 2 0)).toNat))))]) (IntKind.wrap .i64 (tick + (IntKind.wrap .i64 (r496_0.1.getD 0 0)))) t67 (IntKind.wrap .u64 (t68 + 1)) w h o hk
    · refine At.step hm ht ⟨[], [false], [], [8, 9], [0]⟩ 22 ⟨[(8, .one (.c (.d (.sl (.int .u8) rest_)))), (9, .one (.c (.own 0 (.pair (.int .i64) (.pair (.int .i64) (.pair (.int .i64) (.slice (.int .u8))))) out)))], [(0, some ⟨82, 0⟩)], [], 1⟩ [(decide ((t68 : Int) < t67)) = false] (by kernel_rfl) ⟨b495_e0, trivial⟩ ?_
      have h := Option.some.inj h
      subst h
      exact hk
def f28_capture_Decode (n : Nat) (b : List Int) : Option ((List (Int × Int × Int × List Int)) × Bool) :=
  if (decide ((((b.length : Nat) : Int) : Int) < 10)) = true then
    some ([], false)
  else
    if cutOk b.length none (some (IntKind.wrap .i64 (((b.length : Nat) : Int) - 4))) none then
    if cutOk b.length (some (IntKind.wrap .i64 (((b.length : Nat) : Int) - 4))) none none then
    (f83_pack_All n ((b.take b.length).drop (IntKind.wrap .i64 (((b.length : Nat) : Int) - 4)).toNat) [4]).bind fun r483_1 =>
    if (!r483_1.2) = true then
      some ([], false)
    else
      if (0 : Int) ≤ 0 ∧ 0 < (((r483_1.1).length : Nat) : Int) then
      (f25_capture_Sum n (b.take (IntKind.wrap .i64 (((b.length : Nat) : Int) - 4)).toNat)).bind fun r484_1 =>
      if (((IntKind.wrap .u32 (r483_1.1.getD 0 0)) : Int) != r484_1) = true then
        some ([], false)
      else
        (f84_pack_Get n (b.take (IntKind.wrap .i64 (((b.length : Nat) : Int) - 4)).toNat) [4, 2]).bind fun r487_0 =>
        if (!r487_0.2.2) = true then
          some ([], false)
        else
          if (0 : Int) ≤ 0 ∧ 0 < (((r487_0.1).length : Nat) : Int) then
          if (((r487_0.1.getD 0 0) : Int) != 1112690517) = true then
            some ([], false)
          else
            if (0 : Int) ≤ 1 ∧ 1 < (((r487_0.1).length : Nat) : Int) then
            if (decide (((r487_0.1.getD 1 0) : Int) > 1024)) = true then
              some ([], false)
            else
              if (0 : Int) ≤ 1 ∧ 1 < (((r487_0.1).length : Nat) : Int) then
              (f28_capture_Decode_L13 n r487_0.2.1 [] 0 (r487_0.1.getD 1 0) 0).bind fun w506 =>
              match w506 with
              | .inl e507 =>
                some (e507.1, e507.2)
              | .inr e508 =>
                if (decide ((((e508.1.length : Nat) : Int) : Int) > 0)) = true then
                  some ([], false)
                else
                  (f23_capture_Right n e508.2).bind fun r509_0 =>
                  if (!r509_0) = true then
                    some ([], false)
                  else
                    some (e508.2, true)
              else none
            else none
          else none
      else none
    else none
    else none
theorem f28_capture_Decode_ok (n : Nat) (b : List Int) (r : (List (Int × Int × Int × List Int)) × Bool) (h : f28_capture_Decode n b = some r) : FnOK Go.Proofs.Try.prog 28 (f28_capture_Decode_in b) (f28_capture_Decode_out r) := by
  unfold f28_capture_Decode at h
  refine At.fn (r := 0) Go.Proofs.Try.func28 rfl (by kernel_rfl) rfl rfl (by kernel_rfl) ?_
  show At Go.Proofs.Try.prog Go.Proofs.Try.f28 0 0 ⟨[(0, .one (.c (.d (.sl (.int .u8) b))))], [], [], 0⟩ _
  refine At.step hm ht ⟨[], [], [], [0], []⟩ 1 ⟨[(0, .one (.c (.d (.sl (.int .u8) b))))], [], [], 0⟩ [] (by kernel_rfl) trivial ?_
  rcases iteS h with ⟨b480_e0, h⟩ | ⟨b480_e0, h⟩
  · refine At.step hm ht ⟨[], [true], [], [], []⟩ 2 ⟨[], [], [], 0⟩ [(decide ((((b.length : Nat) : Int) : Int) < 10)) = true] (by kernel_rfl) ⟨b480_e0, trivial⟩ ?_
    have h := Option.some.inj h
    subst h
    exact At.fin hm ht ⟨[], [], [.nil false 2 0 (.pair (.int .i64) (.pair (.int .i64) (.pair (.int .i64) (.slice (.int .u8))))) (some 82)], [2, 3], [2]⟩ [] (by kernel_rfl) trivial
  · refine At.step hm ht ⟨[], [false], [], [0], []⟩ 3 ⟨[(0, .one (.c (.d (.sl (.int .u8) b))))], [], [], 0⟩ [(decide ((((b.length : Nat) : Int) : Int) < 10)) = false] (by kernel_rfl) ⟨b480_e0, trivial⟩ ?_
    obtain ⟨g482_0, h⟩ := ifS h
    refine At.step hm ht ⟨[], [], [], [0, 4], []⟩ 4 ⟨[(0, .one (.c (.d (.sl (.int .u8) b)))), (4, .one (.c (.d (.sl (.int .u8) (b.take (IntKind.wrap .i64 (((b.length : Nat) : Int) - 4)).toNat)))))], [], [], 0⟩ [cutOk b.length none (some (IntKind.wrap .i64 (((b.length : Nat) : Int) - 4))) none] (by kernel_rfl) ⟨g482_0, trivial⟩ ?_
    obtain ⟨g483_0, h⟩ := ifS h
    obtain ⟨r483_1, cr483_1, h⟩ := bindS h
    refine At.step hm ht ⟨[(6, .call [] [] (f83_pack_All_out r483_1))], [], [], [4, 5, 6], [6]⟩ 5 ⟨[(4, .one (.c (.d (.sl (.int .u8) (b.take (IntKind.wrap .i64 (((b.length : Nat) : Int) - 4)).toNat))))), (5, .one (.c (.own 0 (.int .u64) r483_1.1))), (6, .one (.c (.d (.bool r483_1.2))))], [(0, some ⟨22, 0⟩)], [], 1⟩ [cutOk b.length (some (IntKind.wrap .i64 (((b.length : Nat) : Int) - 4))) none none, FnOK Go.Proofs.Try.prog 83 (f83_pack_All_in ((b.take b.length).drop (IntKind.wrap .i64 (((b.length : Nat) : Int) - 4)).toNat) [4]) (f83_pack_All_out r483_1)] (by kernel_rfl) ⟨g483_0, (f83_pack_All_ok n ((b.take b.length).drop (IntKind.wrap .i64 (((b.length : Nat) : Int) - 4)).toNat) [4] r483_1 cr483_1), trivial⟩ ?_
    rcases iteS h with ⟨b484_2, h⟩ | ⟨b484_2, h⟩
    · refine At.step hm ht ⟨[(2, .b true)], [true], [], [], []⟩ 6 ⟨[], [], [], 0⟩ [(!r483_1.2) = true, true = true] (by kernel_rfl) ⟨b484_2, rfl, trivial⟩ ?_
      have h := Option.some.inj h
      subst h
      exact At.fin hm ht ⟨[], [], [.nil false 2 0 (.pair (.int .i64) (.pair (.int .i64) (.pair (.int .i64) (.slice (.int .u8))))) (some 82)], [2, 3], [2]⟩ [] (by kernel_rfl) trivial
    · obtain ⟨g484_0, h⟩ := ifS h
      obtain ⟨r484_1, cr484_1, h⟩ := bindS h
      rcases iteS h with ⟨b484_e0, h⟩ | ⟨b484_e0, h⟩
      · refine At.step hm ht ⟨[(2, .b false), (8, .call [] [] (f25_capture_Sum_out r484_1))], [true], [], [], []⟩ 6 ⟨[], [], [], 0⟩ [(!r483_1.2) = false, (0 : Int) ≤ 0 ∧ 0 < (((r483_1.1).length : Nat) : Int), FnOK Go.Proofs.Try.prog 25 (f25_capture_Sum_in (b.take (IntKind.wrap .i64 (((b.length : Nat) : Int) - 4)).toNat)) (f25_capture_Sum_out r484_1), (((IntKind.wrap .u32 (r483_1.1.getD 0 0)) : Int) != r484_1) = true] (by kernel_rfl) ⟨b484_2, g484_0, (f25_capture_Sum_ok n (b.take (IntKind.wrap .i64 (((b.length : Nat) : Int) - 4)).toNat) r484_1 cr484_1), b484_e0, trivial⟩ ?_
        have h := Option.some.inj h
        subst h
        exact At.fin hm ht ⟨[], [], [.nil false 2 0 (.pair (.int .i64) (.pair (.int .i64) (.pair (.int .i64) (.slice (.int .u8))))) (some 82)], [2, 3], [2]⟩ [] (by kernel_rfl) trivial
      · refine At.step hm ht ⟨[(2, .b false), (8, .call [] [] (f25_capture_Sum_out r484_1))], [false], [], [4], []⟩ 7 ⟨[(4, .one (.c (.d (.sl (.int .u8) (b.take (IntKind.wrap .i64 (((b.length : Nat) : Int) - 4)).toNat)))))], [], [], 0⟩ [(!r483_1.2) = false, (0 : Int) ≤ 0 ∧ 0 < (((r483_1.1).length : Nat) : Int), FnOK Go.Proofs.Try.prog 25 (f25_capture_Sum_in (b.take (IntKind.wrap .i64 (((b.length : Nat) : Int) - 4)).toNat)) (f25_capture_Sum_out r484_1), (((IntKind.wrap .u32 (r483_1.1.getD 0 0)) : Int) != r484_1) = false] (by kernel_rfl) ⟨b484_2, g484_0, (f25_capture_Sum_ok n (b.take (IntKind.wrap .i64 (((b.length : Nat) : Int) - 4)).toNat) r484_1 cr484_1), b484_e0, trivial⟩ ?_
        obtain ⟨r487_0, cr487_0, h⟩ := bindS h
        refine At.step hm ht ⟨[(2, .call [] [] (f84_pack_Get_out r487_0))], [], [], [6, 7, 8], [2, 3]⟩ 8 ⟨[(6, .one (.c (.d (.bool r487_0.2.2)))), (7, .one (.c (.own 0 (.int .u64) r487_0.1))), (8, .one (.c (.own 1 (.int .u8) r487_0.2.1)))], [(0, some ⟨22, 0⟩), (1, some ⟨5, 0⟩)], [], 2⟩ [FnOK Go.Proofs.Try.prog 84 (f84_pack_Get_in (b.take (IntKind.wrap .i64 (((b.length : Nat) : Int) - 4)).toNat) [4, 2]) (f84_pack_Get_out r487_0)] (by kernel_rfl) ⟨(f84_pack_Get_ok n (b.take (IntKind.wrap .i64 (((b.length : Nat) : Int) - 4)).toNat) [4, 2] r487_0 cr487_0), trivial⟩ ?_
        rcases iteS h with ⟨b488_2, h⟩ | ⟨b488_2, h⟩
        · refine At.step hm ht ⟨[(2, .b true)], [true], [], [], []⟩ 9 ⟨[], [], [], 0⟩ [(!r487_0.2.2) = true, true = true] (by kernel_rfl) ⟨b488_2, rfl, trivial⟩ ?_
          have h := Option.some.inj h
          subst h
          exact At.fin hm ht ⟨[], [], [.nil false 2 0 (.pair (.int .i64) (.pair (.int .i64) (.pair (.int .i64) (.slice (.int .u8))))) (some 82)], [2, 3], [2]⟩ [] (by kernel_rfl) trivial
        · obtain ⟨g488_0, h⟩ := ifS h
          rcases iteS h with ⟨b488_8, h⟩ | ⟨b488_8, h⟩
          · refine At.step hm ht ⟨[(2, .b false), (8, .b true)], [true], [], [], []⟩ 9 ⟨[], [], [], 0⟩ [(!r487_0.2.2) = false, (0 : Int) ≤ 0 ∧ 0 < (((r487_0.1).length : Nat) : Int), (((r487_0.1.getD 0 0) : Int) != 1112690517) = true, true = true] (by kernel_rfl) ⟨b488_2, g488_0, b488_8, rfl, trivial⟩ ?_
            have h := Option.some.inj h
            subst h
            exact At.fin hm ht ⟨[], [], [.nil false 2 0 (.pair (.int .i64) (.pair (.int .i64) (.pair (.int .i64) (.slice (.int .u8))))) (some 82)], [2, 3], [2]⟩ [] (by kernel_rfl) trivial
          · obtain ⟨g488_1, h⟩ := ifS h
            rcases iteS h with ⟨b488_e0, h⟩ | ⟨b488_e0, h⟩
            · refine At.step hm ht ⟨[(2, .b false), (8, .b false)], [true], [], [], []⟩ 9 ⟨[], [], [], 0⟩ [(!r487_0.2.2) = false, (0 : Int) ≤ 0 ∧ 0 < (((r487_0.1).length : Nat) : Int), (((r487_0.1.getD 0 0) : Int) != 1112690517) = false, (0 : Int) ≤ 1 ∧ 1 < (((r487_0.1).length : Nat) : Int), (decide (((r487_0.1.getD 1 0) : Int) > 1024)) = true] (by kernel_rfl) ⟨b488_2, g488_0, b488_8, g488_1, b488_e0, trivial⟩ ?_
              have h := Option.some.inj h
              subst h
              exact At.fin hm ht ⟨[], [], [.nil false 2 0 (.pair (.int .i64) (.pair (.int .i64) (.pair (.int .i64) (.slice (.int .u8))))) (some 82)], [2, 3], [2]⟩ [] (by kernel_rfl) trivial
            · refine At.step hm ht ⟨[(2, .b false), (8, .b false)], [false], [], [7, 8], [0, 1]⟩ 10 ⟨[(7, .one (.c (.own 0 (.int .u64) r487_0.1))), (8, .one (.c (.own 1 (.int .u8) r487_0.2.1)))], [(0, some ⟨22, 0⟩), (1, some ⟨5, 0⟩)], [], 2⟩ [(!r487_0.2.2) = false, (0 : Int) ≤ 0 ∧ 0 < (((r487_0.1).length : Nat) : Int), (((r487_0.1.getD 0 0) : Int) != 1112690517) = false, (0 : Int) ≤ 1 ∧ 1 < (((r487_0.1).length : Nat) : Int), (decide (((r487_0.1.getD 1 0) : Int) > 1024)) = false] (by kernel_rfl) ⟨b488_2, g488_0, b488_8, g488_1, b488_e0, trivial⟩ ?_
              refine At.step hm ht ⟨[], [], [], [7, 8, 9], [0, 1]⟩ 11 ⟨[(7, .one (.c (.own 0 (.int .u64) r487_0.1))), (8, .one (.c (.own 1 (.int .u8) r487_0.2.1))), (9, .one (.c (.d (.sl .unit []))))], [(0, some ⟨22, 0⟩), (1, some ⟨5, 0⟩)], [], 2⟩ [] (by kernel_rfl) trivial ?_
              refine At.step hm ht ⟨[], [], [], [7, 8, 9, 10], [0, 1]⟩ 12 ⟨[(7, .one (.c (.own 0 (.int .u64) r487_0.1))), (8, .one (.c (.own 1 (.int .u8) r487_0.2.1))), (9, .one (.c (.d (.sl .unit [])))), (10, .one (.c (.d (.int .i64 0))))], [(0, some ⟨22, 0⟩), (1, some ⟨5, 0⟩)], [], 2⟩ [] (by kernel_rfl) trivial ?_
              obtain ⟨g494_0, h⟩ := ifS h
              refine At.step hm ht ⟨[], [], [.nil false 9 0 (.pair (.int .i64) (.pair (.int .i64) (.pair (.int .i64) (.slice (.int .u8))))) (some 82)], [8, 9, 10, 67, 68], [6]⟩ 13 ⟨[(8, .one (.c (.d (.sl (.int .u8) r487_0.2.1)))), (9, .one (.c (.own 0 (.pair (.int .i64) (.pair (.int .i64) (.pair (.int .i64) (.slice (.int .u8))))) []))), (10, .one (.c (.d (.int .i64 0)))), (67, .one (.c (.d (.int .u64 (r487_0.1.getD 1 0))))), (68, .one (.c (.d (.int .u64 0))))], [(0, some ⟨82, 0⟩)], [], 1⟩ [(0 : Int) ≤ 1 ∧ 1 < (((r487_0.1).length : Nat) : Int)] (by kernel_rfl) ⟨g494_0, trivial⟩ ?_
              obtain ⟨w506, cw506, h⟩ := bindS h
              refine f28_capture_Decode_L13_ok n r487_0.2.1 [] 0 (r487_0.1.getD 1 0) 0 w506 cw506 _ ?_
              rcases w506 with e507 | e508
              · have h := Option.some.inj h
                subst h
                rfl
              · show At Go.Proofs.Try.prog Go.Proofs.Try.f28 0 22 ⟨[(8, .one (.c (.d (.sl (.int .u8) e508.1)))), (9, .one (.c (.own 0 (.pair (.int .i64) (.pair (.int .i64) (.pair (.int .i64) (.slice (.int .u8))))) e508.2)))], [(0, some ⟨82, 0⟩)], [], 1⟩ _
                rcases iteS h with ⟨b509_3, h⟩ | ⟨b509_3, h⟩
                · refine At.step hm ht ⟨[(3, .b true)], [true], [], [], []⟩ 23 ⟨[], [], [], 0⟩ [(decide ((((e508.1.length : Nat) : Int) : Int) > 0)) = true, true = true] (by kernel_rfl) ⟨b509_3, rfl, trivial⟩ ?_
                  have h := Option.some.inj h
                  subst h
                  exact At.fin hm ht ⟨[], [], [.nil false 2 0 (.pair (.int .i64) (.pair (.int .i64) (.pair (.int .i64) (.slice (.int .u8))))) (some 82)], [2, 3], [2]⟩ [] (by kernel_rfl) trivial
                · obtain ⟨r509_0, cr509_0, h⟩ := bindS h
                  rcases iteS h with ⟨b509_e0, h⟩ | ⟨b509_e0, h⟩
                  · refine At.step hm ht ⟨[(3, .b false), (5, .call [] [] (f23_capture_Right_out r509_0))], [true], [], [], []⟩ 23 ⟨[], [], [], 0⟩ [(decide ((((e508.1.length : Nat) : Int) : Int) > 0)) = false, FnOK Go.Proofs.Try.prog 23 (f23_capture_Right_in e508.2) (f23_capture_Right_out r509_0), (!r509_0) = true] (by kernel_rfl) ⟨b509_3, (f23_capture_Right_ok n e508.2 r509_0 cr509_0), b509_e0, trivial⟩ ?_
                    have h := Option.some.inj h
                    subst h
                    exact At.fin hm ht ⟨[], [], [.nil false 2 0 (.pair (.int .i64) (.pair (.int .i64) (.pair (.int .i64) (.slice (.int .u8))))) (some 82)], [2, 3], [2]⟩ [] (by kernel_rfl) trivial
                  · refine At.step hm ht ⟨[(3, .b false), (5, .call [] [] (f23_capture_Right_out r509_0))], [false], [], [9], [0]⟩ 24 ⟨[(9, .one (.c (.own 0 (.pair (.int .i64) (.pair (.int .i64) (.pair (.int .i64) (.slice (.int .u8))))) e508.2)))], [(0, some ⟨82, 0⟩)], [], 1⟩ [(decide ((((e508.1.length : Nat) : Int) : Int) > 0)) = false, FnOK Go.Proofs.Try.prog 23 (f23_capture_Right_in e508.2) (f23_capture_Right_out r509_0), (!r509_0) = false] (by kernel_rfl) ⟨b509_3, (f23_capture_Right_ok n e508.2 r509_0 cr509_0), b509_e0, trivial⟩ ?_
                    have h := Option.some.inj h
                    subst h
                    exact At.fin hm ht ⟨[], [], [], [2, 3], [0]⟩ [] (by kernel_rfl) trivial
/-! brougham/broughamlaw34.alive -/
def f27_broughamlaw34_alive_in : Inn := ⟨[], [], [], 0⟩
def f27_broughamlaw34_alive_out (r : Bool) : Out := ⟨.one (.c (.d (.bool r))), [], [], 0⟩
def f27_broughamlaw34_alive (n : Nat) : Option (Bool) :=
  (f20_capture_Encode n []).bind fun r234_0 =>
  (f28_capture_Decode n r234_0.1).bind fun r326_0 =>
  if r234_0.2 = true then
    if ((((r234_0.1.length : Nat) : Int) : Int) == 10) = true then
      if cutOk r234_0.1.length none (some 6) none then
      if ((strOfNums (r234_0.1.take 6)).toList == (⟨#[66, 82, 79, 85, 0, 0]⟩ : ByteArray).toList) = true then
        if r326_0.2 = true then
          if ((((r326_0.1.length : Nat) : Int) : Int) == 0) = true then
            some true
          else
            some false
        else
          some false
      else
        some false
      else none
    else
      some false
  else
    some false
theorem f27_broughamlaw34_alive_ok (n : Nat) (r : Bool) (h : f27_broughamlaw34_alive n = some r) : FnOK Go.Proofs.Try.prog 27 (f27_broughamlaw34_alive_in) (f27_broughamlaw34_alive_out r) := by
  unfold f27_broughamlaw34_alive at h
  refine At.fn (r := 0) Go.Proofs.Try.func27 rfl (by kernel_rfl) rfl rfl (by kernel_rfl) ?_
  show At Go.Proofs.Try.prog Go.Proofs.Try.f27 0 0 ⟨[], [], [], 0⟩ _
  refine At.step hm ht ⟨[], [], [], [], []⟩ 1 ⟨[], [], [], 0⟩ [] (by kernel_rfl) trivial ?_
  obtain ⟨r234_0, cr234_0, h⟩ := bindS h
  refine At.step hm ht ⟨[(0, .call [] [(0, 0, (.pair (.int .i64) (.pair (.int .i64) (.pair (.int .i64) (.slice (.int .u8))))))] (f20_capture_Encode_out r234_0))], [], [], [1, 2], [0]⟩ 2 ⟨[(1, .one (.c (.own 0 (.int .u8) r234_0.1))), (2, .one (.c (.d (.bool r234_0.2))))], [(0, some ⟨5, 0⟩)], [], 1⟩ [FnOK Go.Proofs.Try.prog 20 (f20_capture_Encode_in []) (f20_capture_Encode_out r234_0)] (by kernel_rfl) ⟨(f20_capture_Encode_ok n [] r234_0 cr234_0), trivial⟩ ?_
  obtain ⟨r326_0, cr326_0, h⟩ := bindS h
  refine At.step hm ht ⟨[(1, .call [] [] (f28_capture_Decode_out r326_0))], [], [], [1, 2, 3, 4], [0, 2]⟩ 3 ⟨[(1, .one (.c (.own 0 (.int .u8) r234_0.1))), (2, .one (.c (.d (.bool r234_0.2)))), (3, .one (.c (.own 1 (.pair (.int .i64) (.pair (.int .i64) (.pair (.int .i64) (.slice (.int .u8))))) r326_0.1))), (4, .one (.c (.d (.bool r326_0.2))))], [(0, some ⟨5, 0⟩), (1, some ⟨82, 0⟩)], [], 2⟩ [FnOK Go.Proofs.Try.prog 28 (f28_capture_Decode_in r234_0.1) (f28_capture_Decode_out r326_0)] (by kernel_rfl) ⟨(f28_capture_Decode_ok n r234_0.1 r326_0 cr326_0), trivial⟩ ?_
  rcases iteS h with ⟨b513_1, h⟩ | ⟨b513_1, h⟩
  · rcases iteS h with ⟨b513_6, h⟩ | ⟨b513_6, h⟩
    · obtain ⟨g513_0, h⟩ := ifS h
      rcases iteS h with ⟨b513_12, h⟩ | ⟨b513_12, h⟩
      · rcases iteS h with ⟨b513_15, h⟩ | ⟨b513_15, h⟩
        · rcases iteS h with ⟨b513_20, h⟩ | ⟨b513_20, h⟩
          · have h := Option.some.inj h
            subst h
            exact At.fin hm ht ⟨[(1, .b true), (6, .b true), (12, .b true), (15, .b true), (20, .b true)], [], [], [0], []⟩ [r234_0.2 = true, ((((r234_0.1.length : Nat) : Int) : Int) == 10) = true, cutOk r234_0.1.length none (some 6) none, ((strOfNums (r234_0.1.take 6)).toList == (⟨#[66, 82, 79, 85, 0, 0]⟩ : ByteArray).toList) = true, r326_0.2 = true, ((((r326_0.1.length : Nat) : Int) : Int) == 0) = true] (by kernel_rfl) ⟨b513_1, b513_6, g513_0, b513_12, b513_15, b513_20, trivial⟩
          · have h := Option.some.inj h
            subst h
            exact At.fin hm ht ⟨[(1, .b true), (6, .b true), (12, .b true), (15, .b true), (20, .b false)], [], [], [0], []⟩ [r234_0.2 = true, ((((r234_0.1.length : Nat) : Int) : Int) == 10) = true, cutOk r234_0.1.length none (some 6) none, ((strOfNums (r234_0.1.take 6)).toList == (⟨#[66, 82, 79, 85, 0, 0]⟩ : ByteArray).toList) = true, r326_0.2 = true, ((((r326_0.1.length : Nat) : Int) : Int) == 0) = false] (by kernel_rfl) ⟨b513_1, b513_6, g513_0, b513_12, b513_15, b513_20, trivial⟩
        · have h := Option.some.inj h
          subst h
          exact At.fin hm ht ⟨[(1, .b true), (6, .b true), (12, .b true), (15, .b false)], [], [], [0], []⟩ [r234_0.2 = true, ((((r234_0.1.length : Nat) : Int) : Int) == 10) = true, cutOk r234_0.1.length none (some 6) none, ((strOfNums (r234_0.1.take 6)).toList == (⟨#[66, 82, 79, 85, 0, 0]⟩ : ByteArray).toList) = true, r326_0.2 = false] (by kernel_rfl) ⟨b513_1, b513_6, g513_0, b513_12, b513_15, trivial⟩
      · have h := Option.some.inj h
        subst h
        exact At.fin hm ht ⟨[(1, .b true), (6, .b true), (12, .b false)], [], [], [0], []⟩ [r234_0.2 = true, ((((r234_0.1.length : Nat) : Int) : Int) == 10) = true, cutOk r234_0.1.length none (some 6) none, ((strOfNums (r234_0.1.take 6)).toList == (⟨#[66, 82, 79, 85, 0, 0]⟩ : ByteArray).toList) = false] (by kernel_rfl) ⟨b513_1, b513_6, g513_0, b513_12, trivial⟩
    · have h := Option.some.inj h
      subst h
      exact At.fin hm ht ⟨[(1, .b true), (6, .b false)], [], [], [0], []⟩ [r234_0.2 = true, ((((r234_0.1.length : Nat) : Int) : Int) == 10) = false] (by kernel_rfl) ⟨b513_1, b513_6, trivial⟩
  · have h := Option.some.inj h
    subst h
    exact At.fin hm ht ⟨[(1, .b false)], [], [], [0], []⟩ [r234_0.2 = false] (by kernel_rfl) ⟨b513_1, trivial⟩
/-! brougham/broughamlaw34.CaptureMerges -/
def f8_broughamlaw34_CaptureMerges_in (a : List (Int × Int × Int × List Int)) (b : List (Int × Int × Int × List Int)) (x_0 : Int) (x_1 : Int) : Inn := ⟨[.c (.d (.sl (.pair (.int .i64) (.pair (.int .i64) (.pair (.int .i64) (.slice (.int .u8))))) a)), .c (.d (.sl (.pair (.int .i64) (.pair (.int .i64) (.pair (.int .i64) (.slice (.int .u8))))) b)), .agg [.d (.int .i64 x_0), .d (.int .i64 x_1)]], [], [], 0⟩
def f8_broughamlaw34_CaptureMerges_out (r : Bool) : Out := ⟨.one (.c (.d (.bool r))), [], [], 0⟩
def f8_broughamlaw34_CaptureMerges_L6 : Nat → (List (Int × Int × Int × List Int)) → (List (Int × Int × Int × List Int)) → (List (Int × Int × Int × ByteArray)) → Int → Int → Int → Int → Int → Option ((Bool) ⊕ ((List (Int × Int × Int × List Int)) × (List (Int × Int × Int × List Int)) × Int × Int × Int × Int))
  | 0, _, _, _, _, _, _, _, _ => none
  | n + 1, a, b, m, i, k, n_, x_0, x_1 =>
    if (decide ((n_ : Int) < ((m.length : Nat) : Int))) = true then
      if ((k : Int) == ((b.length : Nat) : Int)) = true then
        if (((IntKind.wrap .i64 (i + k)) : Int) != n_) = true then
          some (.inl false)
        else
          if ((i : Int) == ((a.length : Nat) : Int)) = true then
            if ((k : Int) == ((b.length : Nat) : Int)) = true then
              some (.inl false)
            else
              if (0 : Int) ≤ n_ ∧ n_ < (((m).length : Nat) : Int) then
              if cutOk a.length (some i) (some (IntKind.wrap .i64 (i + 1))) (some (IntKind.wrap .i64 (i + 1))) then
              (f22_broughamlaw34_plain n ((a.take (IntKind.wrap .i64 (i + 1)).toNat).drop i.toNat)).bind fun r143_2 =>
              if (0 : Int) ≤ 0 ∧ 0 < (((r143_2).length : Nat) : Int) then
              if (!(((((m.getD n_.toNat (0, (0, (0, ByteArray.empty)))).1) : Int) == ((r143_2.getD 0 (0, (0, (0, ByteArray.empty)))).1)) && ((((((m.getD n_.toNat (0, (0, (0, ByteArray.empty)))).2).1) : Int) == (((r143_2.getD 0 (0, (0, (0, ByteArray.empty)))).2).1)) && (((((((m.getD n_.toNat (0, (0, (0, ByteArray.empty)))).2).2).1) : Int) == ((((r143_2.getD 0 (0, (0, (0, ByteArray.empty)))).2).2).1)) && (((((m.getD n_.toNat (0, (0, (0, ByteArray.empty)))).2).2).2).toList == ((((r143_2.getD 0 (0, (0, (0, ByteArray.empty)))).2).2).2).toList))))) = true then
                some (.inl false)
              else
                f8_broughamlaw34_CaptureMerges_L6 n a b m (IntKind.wrap .i64 (i + 1)) k (IntKind.wrap .i64 (n_ + 1)) x_0 x_1
              else none
              else none
              else none
          else
            if (0 : Int) ≤ n_ ∧ n_ < (((m).length : Nat) : Int) then
            if cutOk a.length (some i) (some (IntKind.wrap .i64 (i + 1))) (some (IntKind.wrap .i64 (i + 1))) then
            (f22_broughamlaw34_plain n ((a.take (IntKind.wrap .i64 (i + 1)).toNat).drop i.toNat)).bind fun r148_2 =>
            if (0 : Int) ≤ 0 ∧ 0 < (((r148_2).length : Nat) : Int) then
            if (!(((((m.getD n_.toNat (0, (0, (0, ByteArray.empty)))).1) : Int) == ((r148_2.getD 0 (0, (0, (0, ByteArray.empty)))).1)) && ((((((m.getD n_.toNat (0, (0, (0, ByteArray.empty)))).2).1) : Int) == (((r148_2.getD 0 (0, (0, (0, ByteArray.empty)))).2).1)) && (((((((m.getD n_.toNat (0, (0, (0, ByteArray.empty)))).2).2).1) : Int) == ((((r148_2.getD 0 (0, (0, (0, ByteArray.empty)))).2).2).1)) && (((((m.getD n_.toNat (0, (0, (0, ByteArray.empty)))).2).2).2).toList == ((((r148_2.getD 0 (0, (0, (0, ByteArray.empty)))).2).2).2).toList))))) = true then
              some (.inl false)
            else
              f8_broughamlaw34_CaptureMerges_L6 n a b m (IntKind.wrap .i64 (i + 1)) k (IntKind.wrap .i64 (n_ + 1)) x_0 x_1
            else none
            else none
            else none
      else
        if (decide ((i : Int) < ((a.length : Nat) : Int))) = true then
          if (0 : Int) ≤ i ∧ i < (((a).length : Nat) : Int) then
          if (0 : Int) ≤ k ∧ k < (((b).length : Nat) : Int) then
          if (((IntKind.wrap .i64 (i + k)) : Int) != n_) = true then
            some (.inl false)
          else
            if ((i : Int) == ((a.length : Nat) : Int)) = true then
              if ((k : Int) == ((b.length : Nat) : Int)) = true then
                some (.inl false)
              else
                if (decide ((((a.getD i.toNat (0, (0, (0, [])))).1) : Int) ≤ ((b.getD k.toNat (0, (0, (0, [])))).1))) = true then
                  if (0 : Int) ≤ n_ ∧ n_ < (((m).length : Nat) : Int) then
                  if cutOk a.length (some i) (some (IntKind.wrap .i64 (i + 1))) (some (IntKind.wrap .i64 (i + 1))) then
                  (f22_broughamlaw34_plain n ((a.take (IntKind.wrap .i64 (i + 1)).toNat).drop i.toNat)).bind fun r156_2 =>
                  if (0 : Int) ≤ 0 ∧ 0 < (((r156_2).length : Nat) : Int) then
                  if (!(((((m.getD n_.toNat (0, (0, (0, ByteArray.empty)))).1) : Int) == ((r156_2.getD 0 (0, (0, (0, ByteArray.empty)))).1)) && ((((((m.getD n_.toNat (0, (0, (0, ByteArray.empty)))).2).1) : Int) == (((r156_2.getD 0 (0, (0, (0, ByteArray.empty)))).2).1)) && (((((((m.getD n_.toNat (0, (0, (0, ByteArray.empty)))).2).2).1) : Int) == ((((r156_2.getD 0 (0, (0, (0, ByteArray.empty)))).2).2).1)) && (((((m.getD n_.toNat (0, (0, (0, ByteArray.empty)))).2).2).2).toList == ((((r156_2.getD 0 (0, (0, (0, ByteArray.empty)))).2).2).2).toList))))) = true then
                    some (.inl false)
                  else
                    f8_broughamlaw34_CaptureMerges_L6 n a b m (IntKind.wrap .i64 (i + 1)) k (IntKind.wrap .i64 (n_ + 1)) x_0 x_1
                  else none
                  else none
                  else none
                else
                  if (0 : Int) ≤ n_ ∧ n_ < (((m).length : Nat) : Int) then
                  if cutOk b.length (some k) (some (IntKind.wrap .i64 (k + 1))) (some (IntKind.wrap .i64 (k + 1))) then
                  (f22_broughamlaw34_plain n ((b.take (IntKind.wrap .i64 (k + 1)).toNat).drop k.toNat)).bind fun r160_2 =>
                  if (0 : Int) ≤ 0 ∧ 0 < (((r160_2).length : Nat) : Int) then
                  if (!(((((m.getD n_.toNat (0, (0, (0, ByteArray.empty)))).1) : Int) == ((r160_2.getD 0 (0, (0, (0, ByteArray.empty)))).1)) && ((((((m.getD n_.toNat (0, (0, (0, ByteArray.empty)))).2).1) : Int) == (((r160_2.getD 0 (0, (0, (0, ByteArray.empty)))).2).1)) && (((((((m.getD n_.toNat (0, (0, (0, ByteArray.empty)))).2).2).1) : Int) == ((((r160_2.getD 0 (0, (0, (0, ByteArray.empty)))).2).2).1)) && (((((m.getD n_.toNat (0, (0, (0, ByteArray.empty)))).2).2).2).toList == ((((r160_2.getD 0 (0, (0, (0, ByteArray.empty)))).2).2).2).toList))))) = true then
                    some (.inl false)
                  else
                    f8_broughamlaw34_CaptureMerges_L6 n a b m i (IntKind.wrap .i64 (k + 1)) (IntKind.wrap .i64 (n_ + 1)) x_0 x_1
                  else none
                  else none
                  else none
            else
              if (decide ((((a.getD i.toNat (0, (0, (0, [])))).1) : Int) ≤ ((b.getD k.toNat (0, (0, (0, [])))).1))) = true then
                if (0 : Int) ≤ n_ ∧ n_ < (((m).length : Nat) : Int) then
                if cutOk a.length (some i) (some (IntKind.wrap .i64 (i + 1))) (some (IntKind.wrap .i64 (i + 1))) then
                (f22_broughamlaw34_plain n ((a.take (IntKind.wrap .i64 (i + 1)).toNat).drop i.toNat)).bind fun r165_2 =>
                if (0 : Int) ≤ 0 ∧ 0 < (((r165_2).length : Nat) : Int) then
                if (!(((((m.getD n_.toNat (0, (0, (0, ByteArray.empty)))).1) : Int) == ((r165_2.getD 0 (0, (0, (0, ByteArray.empty)))).1)) && ((((((m.getD n_.toNat (0, (0, (0, ByteArray.empty)))).2).1) : Int) == (((r165_2.getD 0 (0, (0, (0, ByteArray.empty)))).2).1)) && (((((((m.getD n_.toNat (0, (0, (0, ByteArray.empty)))).2).2).1) : Int) == ((((r165_2.getD 0 (0, (0, (0, ByteArray.empty)))).2).2).1)) && (((((m.getD n_.toNat (0, (0, (0, ByteArray.empty)))).2).2).2).toList == ((((r165_2.getD 0 (0, (0, (0, ByteArray.empty)))).2).2).2).toList))))) = true then
                  some (.inl false)
                else
                  f8_broughamlaw34_CaptureMerges_L6 n a b m (IntKind.wrap .i64 (i + 1)) k (IntKind.wrap .i64 (n_ + 1)) x_0 x_1
                else none
                else none
                else none
              else
                if (0 : Int) ≤ n_ ∧ n_ < (((m).length : Nat) : Int) then
                if cutOk b.length (some k) (some (IntKind.wrap .i64 (k + 1))) (some (IntKind.wrap .i64 (k + 1))) then
                (f22_broughamlaw34_plain n ((b.take (IntKind.wrap .i64 (k + 1)).toNat).drop k.toNat)).bind fun r169_2 =>
                if (0 : Int) ≤ 0 ∧ 0 < (((r169_2).length : Nat) : Int) then
                if (!(((((m.getD n_.toNat (0, (0, (0, ByteArray.empty)))).1) : Int) == ((r169_2.getD 0 (0, (0, (0, ByteArray.empty)))).1)) && ((((((m.getD n_.toNat (0, (0, (0, ByteArray.empty)))).2).1) : Int) == (((r169_2.getD 0 (0, (0, (0, ByteArray.empty)))).2).1)) && (((((((m.getD n_.toNat (0, (0, (0, ByteArray.empty)))).2).2).1) : Int) == ((((r169_2.getD 0 (0, (0, (0, ByteArray.empty)))).2).2).1)) && (((((m.getD n_.toNat (0, (0, (0, ByteArray.empty)))).2).2).2).toList == ((((r169_2.getD 0 (0, (0, (0, ByteArray.empty)))).2).2).2).toList))))) = true then
                  some (.inl false)
                else
                  f8_broughamlaw34_CaptureMerges_L6 n a b m i (IntKind.wrap .i64 (k + 1)) (IntKind.wrap .i64 (n_ + 1)) x_0 x_1
                else none
                else none
                else none
          else none
          else none
        else
          if (((IntKind.wrap .i64 (i + k)) : Int) != n_) = true then
            some (.inl false)
          else
            if ((i : Int) == ((a.length : Nat) : Int)) = true then
              if ((k : Int) == ((b.length : Nat) : Int)) = true then
                some (.inl false)
              else
                if (0 : Int) ≤ n_ ∧ n_ < (((m).length : Nat) : Int) then
                if cutOk b.length (some k) (some (IntKind.wrap .i64 (k + 1))) (some (IntKind.wrap .i64 (k + 1))) then
                (f22_broughamlaw34_plain n ((b.take (IntKind.wrap .i64 (k + 1)).toNat).drop k.toNat)).bind fun r177_2 =>
                if (0 : Int) ≤ 0 ∧ 0 < (((r177_2).length : Nat) : Int) then
                if (!(((((m.getD n_.toNat (0, (0, (0, ByteArray.empty)))).1) : Int) == ((r177_2.getD 0 (0, (0, (0, ByteArray.empty)))).1)) && ((((((m.getD n_.toNat (0, (0, (0, ByteArray.empty)))).2).1) : Int) == (((r177_2.getD 0 (0, (0, (0, ByteArray.empty)))).2).1)) && (((((((m.getD n_.toNat (0, (0, (0, ByteArray.empty)))).2).2).1) : Int) == ((((r177_2.getD 0 (0, (0, (0, ByteArray.empty)))).2).2).1)) && (((((m.getD n_.toNat (0, (0, (0, ByteArray.empty)))).2).2).2).toList == ((((r177_2.getD 0 (0, (0, (0, ByteArray.empty)))).2).2).2).toList))))) = true then
                  some (.inl false)
                else
                  f8_broughamlaw34_CaptureMerges_L6 n a b m i (IntKind.wrap .i64 (k + 1)) (IntKind.wrap .i64 (n_ + 1)) x_0 x_1
                else none
                else none
                else none
            else
              if (0 : Int) ≤ n_ ∧ n_ < (((m).length : Nat) : Int) then
              if cutOk b.length (some k) (some (IntKind.wrap .i64 (k + 1))) (some (IntKind.wrap .i64 (k + 1))) then
              (f22_broughamlaw34_plain n ((b.take (IntKind.wrap .i64 (k + 1)).toNat).drop k.toNat)).bind fun r182_2 =>
              if (0 : Int) ≤ 0 ∧ 0 < (((r182_2).length : Nat) : Int) then
              if (!(((((m.getD n_.toNat (0, (0, (0, ByteArray.empty)))).1) : Int) == ((r182_2.getD 0 (0, (0, (0, ByteArray.empty)))).1)) && ((((((m.getD n_.toNat (0, (0, (0, ByteArray.empty)))).2).1) : Int) == (((r182_2.getD 0 (0, (0, (0, ByteArray.empty)))).2).1)) && (((((((m.getD n_.toNat (0, (0, (0, ByteArray.empty)))).2).2).1) : Int) == ((((r182_2.getD 0 (0, (0, (0, ByteArray.empty)))).2).2).1)) && (((((m.getD n_.toNat (0, (0, (0, ByteArray.empty)))).2).2).2).toList == ((((r182_2.getD 0 (0, (0, (0, ByteArray.empty)))).2).2).2).toList))))) = true then
                some (.inl false)
              else
                f8_broughamlaw34_CaptureMerges_L6 n a b m i (IntKind.wrap .i64 (k + 1)) (IntKind.wrap .i64 (n_ + 1)) x_0 x_1
              else none
              else none
              else none
    else
      some (.inr ((a, b, i, k, x_0, x_1)))
def f8_broughamlaw34_CaptureMerges_L6_k (w : (Bool) ⊕ ((List (Int × Int × Int × List Int)) × (List (Int × Int × Int × List Int)) × Int × Int × Int × Int)) (o : Out) : Prop := match w with
  | .inl e => o = f8_broughamlaw34_CaptureMerges_out e
  | .inr e => At Go.Proofs.Try.prog Go.Proofs.Try.f8 0 18 ⟨[(0, .one (.c (.d (.sl (.pair (.int .i64) (.pair (.int .i64) (.pair (.int .i64) (.slice (.int .u8))))) e.1)))), (1, .one (.c (.d (.sl (.pair (.int .i64) (.pair (.int .i64) (.pair (.int .i64) (.slice (.int .u8))))) e.2.1)))), (5, .one (.c (.ptr 0 0))), (8, .one (.c (.d (.int .i64 e.2.2.1)))), (9, .one (.c (.d (.int .i64 e.2.2.2.1))))], [], [(0, [.d (.int .i64 e.2.2.2.2.1), .d (.int .i64 e.2.2.2.2.2)])], 1⟩ o
theorem f8_broughamlaw34_CaptureMerges_L6_ok (n : Nat) : ∀ (a : List (Int × Int × Int × List Int)) (b : List (Int × Int × Int × List Int)) (m : List (Int × Int × Int × ByteArray)) (i : Int) (k : Int) (n_ : Int) (x_0 : Int) (x_1 : Int) (w : (Bool) ⊕ ((List (Int × Int × Int × List Int)) × (List (Int × Int × Int × List Int)) × Int × Int × Int × Int)) (h : f8_broughamlaw34_CaptureMerges_L6 n a b m i k n_ x_0 x_1 = some w) (o : Out) (hk : f8_broughamlaw34_CaptureMerges_L6_k w o), At Go.Proofs.Try.prog Go.Proofs.Try.f8 0 6 ⟨[(0, .one (.c (.d (.sl (.pair (.int .i64) (.pair (.int .i64) (.pair (.int .i64) (.slice (.int .u8))))) a)))), (1, .one (.c (.d (.sl (.pair (.int .i64) (.pair (.int .i64) (.pair (.int .i64) (.slice (.int .u8))))) b)))), (5, .one (.c (.ptr 0 0))), (7, .one (.c (.own 1 (.pair (.int .i64) (.pair (.int .i64) (.pair (.int .i64) .str))) m))), (8, .one (.c (.d (.int .i64 i)))), (9, .one (.c (.d (.int .i64 k)))), (10, .one (.c (.d (.int .i64 n_))))], [(1, some ⟨84, 0⟩)], [(0, [.d (.int .i64 x_0), .d (.int .i64 x_1)])], 2⟩ o := by
  induction n with
  | zero => intro a b m i k n_ x_0 x_1 w h; rw [f8_broughamlaw34_CaptureMerges_L6] at h; cases h
  | succ n ih =>
    intro a b m i k n_ x_0 x_1 w h o hk
    rw [f8_broughamlaw34_CaptureMerges_L6] at h
    rcases iteS h with ⟨b137_e0, h⟩ | ⟨b137_e0, h⟩
    · refine At.step hm ht ⟨[], [true], [], [0, 1, 5, 7, 8, 9, 10], [0, 1]⟩ 8 ⟨[(0, .one (.c (.d (.sl (.pair (.int .i64) (.pair (.int .i64) (.pair (.int .i64) (.slice (.int .u8))))) a)))), (1, .one (.c (.d (.sl (.pair (.int .i64) (.pair (.int .i64) (.pair (.int .i64) (.slice (.int .u8))))) b)))), (5, .one (.c (.ptr 0 0))), (7, .one (.c (.own 1 (.pair (.int .i64) (.pair (.int .i64) (.pair (.int .i64) .str))) m))), (8, .one (.c (.d (.int .i64 i)))), (9, .one (.c (.d (.int .i64 k)))), (10, .one (.c (.d (.int .i64 n_))))], [(1, some ⟨84, 0⟩)], [(0, [.d (.int .i64 x_0), .d (.int .i64 x_1)])], 2⟩ [(decide ((n_ : Int) < ((m.length : Nat) : Int))) = true] (by kernel_rfl) ⟨b137_e0, trivial⟩ ?_
      rcases iteS h with ⟨b138_4, h⟩ | ⟨b138_4, h⟩
      · refine At.step hm ht ⟨[(4, .b true)], [], [], [0, 1, 5, 7, 8, 9, 10, 11], [0, 1]⟩ 9 ⟨[(0, .one (.c (.d (.sl (.pair (.int .i64) (.pair (.int .i64) (.pair (.int .i64) (.slice (.int .u8))))) a)))), (1, .one (.c (.d (.sl (.pair (.int .i64) (.pair (.int .i64) (.pair (.int .i64) (.slice (.int .u8))))) b)))), (5, .one (.c (.ptr 0 0))), (7, .one (.c (.own 1 (.pair (.int .i64) (.pair (.int .i64) (.pair (.int .i64) .str))) m))), (8, .one (.c (.d (.int .i64 i)))), (9, .one (.c (.d (.int .i64 k)))), (10, .one (.c (.d (.int .i64 n_)))), (11, .one (.c (.d (.bool true))))], [(1, some ⟨84, 0⟩)], [(0, [.d (.int .i64 x_0), .d (.int .i64 x_1)])], 2⟩ [((k : Int) == ((b.length : Nat) : Int)) = true] (by kernel_rfl) ⟨b138_4, trivial⟩ ?_
        rcases iteS h with ⟨b139_5, h⟩ | ⟨b139_5, h⟩
        · refine At.step hm ht ⟨[(5, .b true)], [true], [], [], []⟩ 10 ⟨[], [], [], 0⟩ [(((IntKind.wrap .i64 (i + k)) : Int) != n_) = true, true = true] (by kernel_rfl) ⟨b139_5, rfl, trivial⟩ ?_
          have h := Option.some.inj h
          subst h
          have hk : o = f8_broughamlaw34_CaptureMerges_out false := hk
          subst hk
          exact At.fin hm ht ⟨[], [], [], [6], []⟩ [] (by kernel_rfl) trivial
        · rcases iteS h with ⟨b139_10, h⟩ | ⟨b139_10, h⟩
          · rcases iteS h with ⟨b139_e0, h⟩ | ⟨b139_e0, h⟩
            · refine At.step hm ht ⟨[(5, .b false), (10, .b true)], [true], [], [], []⟩ 10 ⟨[], [], [], 0⟩ [(((IntKind.wrap .i64 (i + k)) : Int) != n_) = false, ((i : Int) == ((a.length : Nat) : Int)) = true, ((k : Int) == ((b.length : Nat) : Int)) = true] (by kernel_rfl) ⟨b139_5, b139_10, b139_e0, trivial⟩ ?_
              have h := Option.some.inj h
              subst h
              have hk : o = f8_broughamlaw34_CaptureMerges_out false := hk
              subst hk
              exact At.fin hm ht ⟨[], [], [], [6], []⟩ [] (by kernel_rfl) trivial
            · refine At.step hm ht ⟨[(5, .b false), (10, .b true)], [false], [], [0, 1, 5, 7, 8, 9, 10, 11], [0, 1]⟩ 11 ⟨[(0, .one (.c (.d (.sl (.pair (.int .i64) (.pair (.int .i64) (.pair (.int .i64) (.slice (.int .u8))))) a)))), (1, .one (.c (.d (.sl (.pair (.int .i64) (.pair (.int .i64) (.pair (.int .i64) (.slice (.int .u8))))) b)))), (5, .one (.c (.ptr 0 0))), (7, .one (.c (.own 1 (.pair (.int .i64) (.pair (.int .i64) (.pair (.int .i64) .str))) m))), (8, .one (.c (.d (.int .i64 i)))), (9, .one (.c (.d (.int .i64 k)))), (10, .one (.c (.d (.int .i64 n_)))), (11, .one (.c (.d (.bool true))))], [(1, some ⟨84, 0⟩)], [(0, [.d (.int .i64 x_0), .d (.int .i64 x_1)])], 2⟩ [(((IntKind.wrap .i64 (i + k)) : Int) != n_) = false, ((i : Int) == ((a.length : Nat) : Int)) = true, ((k : Int) == ((b.length : Nat) : Int)) = false] (by kernel_rfl) ⟨b139_5, b139_10, b139_e0, trivial⟩ ?_
              refine At.step hm ht ⟨[], [true], [], [0, 1, 5, 7, 8, 9, 10], [0, 1]⟩ 12 ⟨[(0, .one (.c (.d (.sl (.pair (.int .i64) (.pair (.int .i64) (.pair (.int .i64) (.slice (.int .u8))))) a)))), (1, .one (.c (.d (.sl (.pair (.int .i64) (.pair (.int .i64) (.pair (.int .i64) (.slice (.int .u8))))) b)))), (5, .one (.c (.ptr 0 0))), (7, .one (.c (.own 1 (.pair (.int .i64) (.pair (.int .i64) (.pair (.int .i64) .str))) m))), (8, .one (.c (.d (.int .i64 i)))), (9, .one (.c (.d (.int .i64 k)))), (10, .one (.c (.d (.int .i64 n_))))], [(1, some ⟨84, 0⟩)], [(0, [.d (.int .i64 x_0), .d (.int .i64 x_1)])], 2⟩ [true = true] (by kernel_rfl) ⟨rfl, trivial⟩ ?_
              obtain ⟨g143_0, h⟩ := ifS h
              obtain ⟨g143_1, h⟩ := ifS h
              obtain ⟨r143_2, cr143_2, h⟩ := bindS h
              obtain ⟨g143_3, h⟩ := ifS h
              rcases iteS h with ⟨b143_e0, h⟩ | ⟨b143_e0, h⟩
              · refine At.step hm ht ⟨[(11, .call [] [] (f22_broughamlaw34_plain_out r143_2))], [true], [], [], []⟩ 13 ⟨[], [], [], 0⟩ [(0 : Int) ≤ n_ ∧ n_ < (((m).length : Nat) : Int), cutOk a.length (some i) (some (IntKind.wrap .i64 (i + 1))) (some (IntKind.wrap .i64 (i + 1))), FnOK Go.Proofs.Try.prog 22 (f22_broughamlaw34_plain_in ((a.take (IntKind.wrap .i64 (i + 1)).toNat).drop i.toNat)) (f22_broughamlaw34_plain_out r143_2), (0 : Int) ≤ 0 ∧ 0 < (((r143_2).length : Nat) : Int), (!(((((m.getD n_.toNat (0, (0, (0, ByteArray.empty)))).1) : Int) == ((r143_2.getD 0 (0, (0, (0, ByteArray.empty)))).1)) && ((((((m.getD n_.toNat (0, (0, (0, ByteArray.empty)))).2).1) : Int) == (((r143_2.getD 0 (0, (0, (0, ByteArray.empty)))).2).1)) && (((((((m.getD n_.toNat (0, (0, (0, ByteArray.empty)))).2).2).1) : Int) == ((((r143_2.getD 0 (0, (0, (0, ByteArray.empty)))).2).2).1)) && (((((m.getD n_.toNat (0, (0, (0, ByteArray.empty)))).2).2).2).toList == ((((r143_2.getD 0 (0, (0, (0, ByteArray.empty)))).2).2).2).toList))))) = true] (by kernel_rfl) ⟨g143_0, g143_1, (f22_broughamlaw34_plain_ok n ((a.take (IntKind.wrap .i64 (i + 1)).toNat).drop i.toNat) r143_2 cr143_2), g143_3, b143_e0, trivial⟩ ?_
                have h := Option.some.inj h
                subst h
                have hk : o = f8_broughamlaw34_CaptureMerges_out false := hk
                subst hk
                exact At.fin hm ht ⟨[], [], [], [6], []⟩ [] (by kernel_rfl) trivial
              · refine At.step hm ht ⟨[(11, .call [] [] (f22_broughamlaw34_plain_out r143_2))], [false], [], [0, 1, 5, 7, 8, 9, 10], [0, 1]⟩ 14 ⟨[(0, .one (.c (.d (.sl (.pair (.int .i64) (.pair (.int .i64) (.pair (.int .i64) (.slice (.int .u8))))) a)))), (1, .one (.c (.d (.sl (.pair (.int .i64) (.pair (.int .i64) (.pair (.int .i64) (.slice (.int .u8))))) b)))), (5, .one (.c (.ptr 0 0))), (7, .one (.c (.own 1 (.pair (.int .i64) (.pair (.int .i64) (.pair (.int .i64) .str))) m))), (8, .one (.c (.d (.int .i64 i)))), (9, .one (.c (.d (.int .i64 k)))), (10, .one (.c (.d (.int .i64 n_))))], [(1, some ⟨84, 0⟩)], [(0, [.d (.int .i64 x_0), .d (.int .i64 x_1)])], 2⟩ [(0 : Int) ≤ n_ ∧ n_ < (((m).length : Nat) : Int), cutOk a.length (some i) (some (IntKind.wrap .i64 (i + 1))) (some (IntKind.wrap .i64 (i + 1))), FnOK Go.Proofs.Try.prog 22 (f22_broughamlaw34_plain_in ((a.take (IntKind.wrap .i64 (i + 1)).toNat).drop i.toNat)) (f22_broughamlaw34_plain_out r143_2), (0 : Int) ≤ 0 ∧ 0 < (((r143_2).length : Nat) : Int), (!(((((m.getD n_.toNat (0, (0, (0, ByteArray.empty)))).1) : Int) == ((r143_2.getD 0 (0, (0, (0, ByteArray.empty)))).1)) && ((((((m.getD n_.toNat (0, (0, (0, ByteArray.empty)))).2).1) : Int) == (((r143_2.getD 0 (0, (0, (0, ByteArray.empty)))).2).1)) && (((((((m.getD n_.toNat (0, (0, (0, ByteArray.empty)))).2).2).1) : Int) == ((((r143_2.getD 0 (0, (0, (0, ByteArray.empty)))).2).2).1)) && (((((m.getD n_.toNat (0, (0, (0, ByteArray.empty)))).2).2).2).toList == ((((r143_2.getD 0 (0, (0, (0, ByteArray.empty)))).2).2).2).toList))))) = false] (by kernel_rfl) ⟨g143_0, g143_1, (f22_broughamlaw34_plain_ok n ((a.take (IntKind.wrap .i64 (i + 1)).toNat).drop i.toNat) r143_2 cr143_2), g143_3, b143_e0, trivial⟩ ?_
                refine At.step hm ht ⟨[], [], [], [0, 1, 5, 7, 8, 9, 10], [0, 1]⟩ 7 ⟨[(0, .one (.c (.d (.sl (.pair (.int .i64) (.pair (.int .i64) (.pair (.int .i64) (.slice (.int .u8))))) a)))), (1, .one (.c (.d (.sl (.pair (.int .i64) (.pair (.int .i64) (.pair (.int .i64) (.slice (.int .u8))))) b)))), (5, .one (.c (.ptr 0 0))), (7, .one (.c (.own 1 (.pair (.int .i64) (.pair (.int .i64) (.pair (.int .i64) .str))) m))), (8, .one (.c (.d (.int .i64 (IntKind.wrap .i64 (i + 1)))))), (9, .one (.c (.d (.int .i64 k)))), (10, .one (.c (.d (.int .i64 n_))))], [(1, some ⟨84, 0⟩)], [(0, [.d (.int .i64 x_0), .d (.int .i64 x_1)])], 2⟩ [] (by kernel_rfl) trivial ?_
                refine At.step hm ht ⟨[], [], [], [0, 1, 5, 7, 8, 9, 10], [0, 1]⟩ 6 ⟨[(0, .one (.c (.d (.sl (.pair (.int .i64) (.pair (.int .i64) (.pair (.int .i64) (.slice (.int .u8))))) a)))), (1, .one (.c (.d (.sl (.pair (.int .i64) (.pair (.int .i64) (.pair (.int .i64) (.slice (.int .u8))))) b)))), (5, .one (.c (.ptr 0 0))), (7, .one (.c (.own 1 (.pair (.int .i64) (.pair (.int .i64) (.pair (.int .i64) .str))) m))), (8, .one (.c (.d (.int .i64 (IntKind.wrap .i64 (i + 1)))))), (9, .one (.c (.d (.int .i64 k)))), (10, .one (.c (.d (.int .i64 (IntKind.wrap .i64 (n_ + 1))))))], [(1, some ⟨84, 0⟩)], [(0, [.d (.int .i64 x_0), .d (.int .i64 x_1)])], 2⟩ [] (by kernel_rfl) trivial ?_
                exact ih a b m (IntKind.wrap .i64 (i + 1)) k (IntKind.wrap .i64 (n_ + 1)) x_0 x_1 w h o hk
          · refine At.step hm ht ⟨[(5, .b false), (10, .b false)], [false], [], [0, 1, 5, 7, 8, 9, 10, 11], [0, 1]⟩ 11 ⟨[(0, .one (.c (.d (.sl (.pair (.int .i64) (.pair (.int .i64) (.pair (.int .i64) (.slice (.int .u8))))) a)))), (1, .one (.c (.d (.sl (.pair (.int .i64) (.pair (.int .i64) (.pair (.int .i64) (.slice (.int .u8))))) b)))), (5, .one (.c (.ptr 0 0))), (7, .one (.c (.own 1 (.pair (.int .i64) (.pair (.int .i64) (.pair (.int .i64) .str))) m))), (8, .one (.c (.d (.int .i64 i)))), (9, .one (.c (.d (.int .i64 k)))), (10, .one (.c (.d (.int .i64 n_)))), (11, .one (.c (.d (.bool true))))], [(1, some ⟨84, 0⟩)], [(0, [.d (.int .i64 x_0), .d (.int .i64 x_1)])], 2⟩ [(((IntKind.wrap .i64 (i + k)) : Int) != n_) = false, ((i : Int) == ((a.length : Nat) : Int)) = false, false = false] (by kernel_rfl) ⟨b139_5, b139_10, rfl, trivial⟩ ?_
            refine At.step hm ht ⟨[], [true], [], [0, 1, 5, 7, 8, 9, 10], [0, 1]⟩ 12 ⟨[(0, .one (.c (.d (.sl (.pair (.int .i64) (.pair (.int .i64) (.pair (.int .i64) (.slice (.int .u8))))) a)))), (1, .one (.c (.d (.sl (.pair (.int .i64) (.pair (.int .i64) (.pair (.int .i64) (.slice (.int .u8))))) b)))), (5, .one (.c (.ptr 0 0))), (7, .one (.c (.own 1 (.pair (.int .i64) (.pair (.int .i64) (.pair (.int .i64) .str))) m))), (8, .one (.c (.d (.int .i64 i)))), (9, .one (.c (.d (.int .i64 k)))), (10, .one (.c (.d (.int .i64 n_))))], [(1, some ⟨84, 0⟩)], [(0, [.d (.int .i64 x_0), .d (.int .i64 x_1)])], 2⟩ [true = true] (by kernel_rfl) ⟨rfl, trivial⟩ ?_
            obtain ⟨g148_0, h⟩ := ifS h
            obtain ⟨g148_1, h⟩ := ifS h
            obtain ⟨r148_2, cr148_2, h⟩ := bindS h
            obtain ⟨g148_3, h⟩ := ifS h
            rcases iteS h with ⟨b148_e0, h⟩ | ⟨b148_e0, h⟩
            · refine At.step hm ht ⟨[(11, .call [] [] (f22_broughamlaw34_plain_out r148_2))], [true], [], [], []⟩ 13 ⟨[], [], [], 0⟩ [(0 : Int) ≤ n_ ∧ n_ < (((m).length : Nat) : Int), cutOk a.length (some i) (some (IntKind.wrap .i64 (i + 1))) (some (IntKind.wrap .i64 (i + 1))), FnOK Go.Proofs.Try.prog 22 (f22_broughamlaw34_plain_in ((a.take (IntKind.wrap .i64 (i + 1)).toNat).drop i.toNat)) (f22_broughamlaw34_plain_out r148_2), (0 : Int) ≤ 0 ∧ 0 < (((r148_2).length : Nat) : Int), (!(((((m.getD n_.toNat (0, (0, (0, ByteArray.empty)))).1) : Int) == ((r148_2.getD 0 (0, (0, (0, ByteArray.empty)))).1)) && ((((((m.getD n_.toNat (0, (0, (0, ByteArray.empty)))).2).1) : Int) == (((r148_2.getD 0 (0, (0, (0, ByteArray.empty)))).2).1)) && (((((((m.getD n_.toNat (0, (0, (0, ByteArray.empty)))).2).2).1) : Int) == ((((r148_2.getD 0 (0, (0, (0, ByteArray.empty)))).2).2).1)) && (((((m.getD n_.toNat (0, (0, (0, ByteArray.empty)))).2).2).2).toList == ((((r148_2.getD 0 (0, (0, (0, ByteArray.empty)))).2).2).2).toList))))) = true] (by kernel_rfl) ⟨g148_0, g148_1, (f22_broughamlaw34_plain_ok n ((a.take (IntKind.wrap .i64 (i + 1)).toNat).drop i.toNat) r148_2 cr148_2), g148_3, b148_e0, trivial⟩ ?_
              have h := Option.some.inj h
              subst h
              have hk : o = f8_broughamlaw34_CaptureMerges_out false := hk
              subst hk
              exact At.fin hm ht ⟨[], [], [], [6], []⟩ [] (by kernel_rfl) trivial
            · refine At.step hm ht ⟨[(11, .call [] [] (f22_broughamlaw34_plain_out r148_2))], [false], [], [0, 1, 5, 7, 8, 9, 10], [0, 1]⟩ 14 ⟨[(0, .one (.c (.d (.sl (.pair (.int .i64) (.pair (.int .i64) (.pair (.int .i64) (.slice (.int .u8))))) a)))), (1, .one (.c (.d (.sl (.pair (.int .i64) (.pair (.int .i64) (.pair (.int .i64) (.slice (.int .u8))))) b)))), (5, .one (.c (.ptr 0 0))), (7, .one (.c (.own 1 (.pair (.int .i64) (.pair (.int .i64) (.pair (.int .i64) .str))) m))), (8, .one (.c (.d (.int .i64 i)))), (9, .one (.c (.d (.int .i64 k)))), (10, .one (.c (.d (.int .i64 n_))))], [(1, some ⟨84, 0⟩)], [(0, [.d (.int .i64 x_0), .d (.int .i64 x_1)])], 2⟩ [(0 : Int) ≤ n_ ∧ n_ < (((m).length : Nat) : Int), cutOk a.length (some i) (some (IntKind.wrap .i64 (i + 1))) (some (IntKind.wrap .i64 (i + 1))), FnOK Go.Proofs.Try.prog 22 (f22_broughamlaw34_plain_in ((a.take (IntKind.wrap .i64 (i + 1)).toNat).drop i.toNat)) (f22_broughamlaw34_plain_out r148_2), (0 : Int) ≤ 0 ∧ 0 < (((r148_2).length : Nat) : Int), (!(((((m.getD n_.toNat (0, (0, (0, ByteArray.empty)))).1) : Int) == ((r148_2.getD 0 (0, (0, (0, ByteArray.empty)))).1)) && ((((((m.getD n_.toNat (0, (0, (0, ByteArray.empty)))).2).1) : Int) == (((r148_2.getD 0 (0, (0, (0, ByteArray.empty)))).2).1)) && (((((((m.getD n_.toNat (0, (0, (0, ByteArray.empty)))).2).2).1) : Int) == ((((r148_2.getD 0 (0, (0, (0, ByteArray.empty)))).2).2).1)) && (((((m.getD n_.toNat (0, (0, (0, ByteArray.empty)))).2).2).2).toList == ((((r148_2.getD 0 (0, (0, (0, ByteArray.empty)))).2).2).2).toList))))) = false] (by kernel_rfl) ⟨g148_0, g148_1, (f22_broughamlaw34_plain_ok n ((a.take (IntKind.wrap .i64 (i + 1)).toNat).drop i.toNat) r148_2 cr148_2), g148_3, b148_e0, trivial⟩ ?_
              refine At.step hm ht ⟨[], [], [], [0, 1, 5, 7, 8, 9, 10], [0, 1]⟩ 7 ⟨[(0, .one (.c (.d (.sl (.pair (.int .i64) (.pair (.int .i64) (.pair (.int .i64) (.slice (.int .u8))))) a)))), (1, .one (.c (.d (.sl (.pair (.int .i64) (.pair (.int .i64) (.pair (.int .i64) (.slice (.int .u8))))) b)))), (5, .one (.c (.ptr 0 0))), (7, .one (.c (.own 1 (.pair (.int .i64) (.pair (.int .i64) (.pair (.int .i64) .str))) m))), (8, .one (.c (.d (.int .i64 (IntKind.wrap .i64 (i + 1)))))), (9, .one (.c (.d (.int .i64 k)))), (10, .one (.c (.d (.int .i64 n_))))], [(1, some ⟨84, 0⟩)], [(0, [.d (.int .i64 x_0), .d (.int .i64 x_1)])], 2⟩ [] (by kernel_rfl) trivial ?_
              refine At.step hm ht ⟨[], [], [], [0, 1, 5, 7, 8, 9, 10], [0, 1]⟩ 6 ⟨[(0, .one (.c (.d (.sl (.pair (.int .i64) (.pair (.int .i64) (.pair (.int .i64) (.slice (.int .u8))))) a)))), (1, .one (.c (.d (.sl (.pair (.int .i64) (.pair (.int .i64) (.pair (.int .i64) (.slice (.int .u8))))) b)))), (5, .one (.c (.ptr 0 0))), (7, .one (.c (.own 1 (.pair (.int .i64) (.pair (.int .i64) (.pair (.int .i64) .str))) m))), (8, .one (.c (.d (.int .i64 (IntKind.wrap .i64 (i + 1)))))), (9, .one (.c (.d (.int .i64 k)))), (10, .one (.c (.d (.int .i64 (IntKind.wrap .i64 (n_ + 1))))))], [(1, some ⟨84, 0⟩)], [(0, [.d (.int .i64 x_0), .d (.int .i64 x_1)])], 2⟩ [] (by kernel_rfl) trivial ?_
              exact ih a b m (IntKind.wrap .i64 (i + 1)) k (IntKind.wrap .i64 (n_ + 1)) x_0 x_1 w h o hk
      · rcases iteS h with ⟨b138_9, h⟩ | ⟨b138_9, h⟩
        · obtain ⟨g138_0, h⟩ := ifS h
          obtain ⟨g138_1, h⟩ := ifS h
          refine At.step hm ht ⟨[(4, .b false), (9, .b true)], [], [], [0, 1, 5, 7, 8, 9, 10, 11], [0, 1]⟩ 9 ⟨[(0, .one (.c (.d (.sl (.pair (.int .i64) (.pair (.int .i64) (.pair (.int .i64) (.slice (.int .u8))))) a)))), (1, .one (.c (.d (.sl (.pair (.int .i64) (.pair (.int .i64) (.pair (.int .i64) (.slice (.int .u8))))) b)))), (5, .one (.c (.ptr 0 0))), (7, .one (.c (.own 1 (.pair (.int .i64) (.pair (.int .i64) (.pair (.int .i64) .str))) m))), (8, .one (.c (.d (.int .i64 i)))), (9, .one (.c (.d (.int .i64 k)))), (10, .one (.c (.d (.int .i64 n_)))), (11, .one (.c (.d (.bool (decide ((((a.getD i.toNat (0, (0, (0, [])))).1) : Int) ≤ ((b.getD k.toNat (0, (0, (0, [])))).1)))))))], [(1, some ⟨84, 0⟩)], [(0, [.d (.int .i64 x_0), .d (.int .i64 x_1)])], 2⟩ [((k : Int) == ((b.length : Nat) : Int)) = false, (decide ((i : Int) < ((a.length : Nat) : Int))) = true, (0 : Int) ≤ i ∧ i < (((a).length : Nat) : Int), (0 : Int) ≤ k ∧ k < (((b).length : Nat) : Int)] (by kernel_rfl) ⟨b138_4, b138_9, g138_0, g138_1, trivial⟩ ?_
          rcases iteS h with ⟨b152_5, h⟩ | ⟨b152_5, h⟩
          · refine At.step hm ht ⟨[(5, .b true)], [true], [], [], []⟩ 10 ⟨[], [], [], 0⟩ [(((IntKind.wrap .i64 (i + k)) : Int) != n_) = true, true = true] (by kernel_rfl) ⟨b152_5, rfl, trivial⟩ ?_
            have h := Option.some.inj h
            subst h
            have hk : o = f8_broughamlaw34_CaptureMerges_out false := hk
            subst hk
            exact At.fin hm ht ⟨[], [], [], [6], []⟩ [] (by kernel_rfl) trivial
          · rcases iteS h with ⟨b152_10, h⟩ | ⟨b152_10, h⟩
            · rcases iteS h with ⟨b152_e0, h⟩ | ⟨b152_e0, h⟩
              · refine At.step hm ht ⟨[(5, .b false), (10, .b true)], [true], [], [], []⟩ 10 ⟨[], [], [], 0⟩ [(((IntKind.wrap .i64 (i + k)) : Int) != n_) = false, ((i : Int) == ((a.length : Nat) : Int)) = true, ((k : Int) == ((b.length : Nat) : Int)) = true] (by kernel_rfl) ⟨b152_5, b152_10, b152_e0, trivial⟩ ?_
                have h := Option.some.inj h
                subst h
                have hk : o = f8_broughamlaw34_CaptureMerges_out false := hk
                subst hk
                exact At.fin hm ht ⟨[], [], [], [6], []⟩ [] (by kernel_rfl) trivial
              · refine At.step hm ht ⟨[(5, .b false), (10, .b true)], [false], [], [0, 1, 5, 7, 8, 9, 10, 11], [0, 1]⟩ 11 ⟨[(0, .one (.c (.d (.sl (.pair (.int .i64) (.pair (.int .i64) (.pair (.int .i64) (.slice (.int .u8))))) a)))), (1, .one (.c (.d (.sl (.pair (.int .i64) (.pair (.int .i64) (.pair (.int .i64) (.slice (.int .u8))))) b)))), (5, .one (.c (.ptr 0 0))), (7, .one (.c (.own 1 (.pair (.int .i64) (.pair (.int .i64) (.pair (.int .i64) .str))) m))), (8, .one (.c (.d (.int .i64 i)))), (9, .one (.c (.d (.int .i64 k)))), (10, .one (.c (.d (.int .i64 n_)))), (11, .one (.c (.d (.bool (decide ((((a.getD i.toNat (0, (0, (0, [])))).1) : Int) ≤ ((b.getD k.toNat (0, (0, (0, [])))).1)))))))], [(1, some ⟨84, 0⟩)], [(0, [.d (.int .i64 x_0), .d (.int .i64 x_1)])], 2⟩ [(((IntKind.wrap .i64 (i + k)) : Int) != n_) = false, ((i : Int) == ((a.length : Nat) : Int)) = true, ((k : Int) == ((b.length : Nat) : Int)) = false] (by kernel_rfl) ⟨b152_5, b152_10, b152_e0, trivial⟩ ?_
                rcases iteS h with ⟨b155_e0, h⟩ | ⟨b155_e0, h⟩
                · refine At.step hm ht ⟨[], [true], [], [0, 1, 5, 7, 8, 9, 10], [0, 1]⟩ 12 ⟨[(0, .one (.c (.d (.sl (.pair (.int .i64) (.pair (.int .i64) (.pair (.int .i64) (.slice (.int .u8))))) a)))), (1, .one (.c (.d (.sl (.pair (.int .i64) (.pair (.int .i64) (.pair (.int .i64) (.slice (.int .u8))))) b)))), (5, .one (.c (.ptr 0 0))), (7, .one (.c (.own 1 (.pair (.int .i64) (.pair (.int .i64) (.pair (.int .i64) .str))) m))), (8, .one (.c (.d (.int .i64 i)))), (9, .one (.c (.d (.int .i64 k)))), (10, .one (.c (.d (.int .i64 n_))))], [(1, some ⟨84, 0⟩)], [(0, [.d (.int .i64 x_0), .d (.int .i64 x_1)])], 2⟩ [(decide ((((a.getD i.toNat (0, (0, (0, [])))).1) : Int) ≤ ((b.getD k.toNat (0, (0, (0, [])))).1))) = true] (by kernel_rfl) ⟨b155_e0, trivial⟩ ?_
                  obtain ⟨g156_0, h⟩ := ifS h
                  obtain ⟨g156_1, h⟩ := ifS h
                  obtain ⟨r156_2, cr156_2, h⟩ := bindS h
                  obtain ⟨g156_3, h⟩ := ifS h
                  rcases iteS h with ⟨b156_e0, h⟩ | ⟨b156_e0, h⟩
                  · refine At.step hm ht ⟨[(11, .call [] [] (f22_broughamlaw34_plain_out r156_2))], [true], [], [], []⟩ 13 ⟨[], [], [], 0⟩ [(0 : Int) ≤ n_ ∧ n_ < (((m).length : Nat) : Int), cutOk a.length (some i) (some (IntKind.wrap .i64 (i + 1))) (some (IntKind.wrap .i64 (i + 1))), FnOK Go.Proofs.Try.prog 22 (f22_broughamlaw34_plain_in ((a.take (IntKind.wrap .i64 (i + 1)).toNat).drop i.toNat)) (f22_broughamlaw34_plain_out r156_2), (0 : Int) ≤ 0 ∧ 0 < (((r156_2).length : Nat) : Int), (!(((((m.getD n_.toNat (0, (0, (0, ByteArray.empty)))).1) : Int) == ((r156_2.getD 0 (0, (0, (0, ByteArray.empty)))).1)) && ((((((m.getD n_.toNat (0, (0, (0, ByteArray.empty)))).2).1) : Int) == (((r156_2.getD 0 (0, (0, (0, ByteArray.empty)))).2).1)) && (((((((m.getD n_.toNat (0, (0, (0, ByteArray.empty)))).2).2).1) : Int) == ((((r156_2.getD 0 (0, (0, (0, ByteArray.empty)))).2).2).1)) && (((((m.getD n_.toNat (0, (0, (0, ByteArray.empty)))).2).2).2).toList == ((((r156_2.getD 0 (0, (0, (0, ByteArray.empty)))).2).2).2).toList))))) = true] (by kernel_rfl) ⟨g156_0, g156_1, (f22_broughamlaw34_plain_ok n ((a.take (IntKind.wrap .i64 (i + 1)).toNat).drop i.toNat) r156_2 cr156_2), g156_3, b156_e0, trivial⟩ ?_
                    have h := Option.some.inj h
                    subst h
                    have hk : o = f8_broughamlaw34_CaptureMerges_out false := hk
                    subst hk
                    exact At.fin hm ht ⟨[], [], [], [6], []⟩ [] (by kernel_rfl) trivial
                  · refine At.step hm ht ⟨[(11, .call [] [] (f22_broughamlaw34_plain_out r156_2))], [false], [], [0, 1, 5, 7, 8, 9, 10], [0, 1]⟩ 14 ⟨[(0, .one (.c (.d (.sl (.pair (.int .i64) (.pair (.int .i64) (.pair (.int .i64) (.slice (.int .u8))))) a)))), (1, .one (.c (.d (.sl (.pair (.int .i64) (.pair (.int .i64) (.pair (.int .i64) (.slice (.int .u8))))) b)))), (5, .one (.c (.ptr 0 0))), (7, .one (.c (.own 1 (.pair (.int .i64) (.pair (.int .i64) (.pair (.int .i64) .str))) m))), (8, .one (.c (.d (.int .i64 i)))), (9, .one (.c (.d (.int .i64 k)))), (10, .one (.c (.d (.int .i64 n_))))], [(1, some ⟨84, 0⟩)], [(0, [.d (.int .i64 x_0), .d (.int .i64 x_1)])], 2⟩ [(0 : Int) ≤ n_ ∧ n_ < (((m).length : Nat) : Int), cutOk a.length (some i) (some (IntKind.wrap .i64 (i + 1))) (some (IntKind.wrap .i64 (i + 1))), FnOK Go.Proofs.Try.prog 22 (f22_broughamlaw34_plain_in ((a.take (IntKind.wrap .i64 (i + 1)).toNat).drop i.toNat)) (f22_broughamlaw34_plain_out r156_2), (0 : Int) ≤ 0 ∧ 0 < (((r156_2).length : Nat) : Int), (!(((((m.getD n_.toNat (0, (0, (0, ByteArray.empty)))).1) : Int) == ((r156_2.getD 0 (0, (0, (0, ByteArray.empty)))).1)) && ((((((m.getD n_.toNat (0, (0, (0, ByteArray.empty)))).2).1) : Int) == (((r156_2.getD 0 (0, (0, (0, ByteArray.empty)))).2).1)) && (((((((m.getD n_.toNat (0, (0, (0, ByteArray.empty)))).2).2).1) : Int) == ((((r156_2.getD 0 (0, (0, (0, ByteArray.empty)))).2).2).1)) && (((((m.getD n_.toNat (0, (0, (0, ByteArray.empty)))).2).2).2).toList == ((((r156_2.getD 0 (0, (0, (0, ByteArray.empty)))).2).2).2).toList))))) = false] (by kernel_rfl) ⟨g156_0, g156_1, (f22_broughamlaw34_plain_ok n ((a.take (IntKind.wrap .i64 (i + 1)).toNat).drop i.toNat) r156_2 cr156_2), g156_3, b156_e0, trivial⟩ ?_
                    refine At.step hm ht ⟨[], [], [], [0, 1, 5, 7, 8, 9, 10], [0, 1]⟩ 7 ⟨[(0, .one (.c (.d (.sl (.pair (.int .i64) (.pair (.int .i64) (.pair (.int .i64) (.slice (.int .u8))))) a)))), (1, .one (.c (.d (.sl (.pair (.int .i64) (.pair (.int .i64) (.pair (.int .i64) (.slice (.int .u8))))) b)))), (5, .one (.c (.ptr 0 0))), (7, .one (.c (.own 1 (.pair (.int .i64) (.pair (.int .i64) (.pair (.int .i64) .str))) m))), (8, .one (.c (.d (.int .i64 (IntKind.wrap .i64 (i + 1)))))), (9, .one (.c (.d (.int .i64 k)))), (10, .one (.c (.d (.int .i64 n_))))], [(1, some ⟨84, 0⟩)], [(0, [.d (.int .i64 x_0), .d (.int .i64 x_1)])], 2⟩ [] (by kernel_rfl) trivial ?_
                    refine At.step hm ht ⟨[], [], [], [0, 1, 5, 7, 8, 9, 10], [0, 1]⟩ 6 ⟨[(0, .one (.c (.d (.sl (.pair (.int .i64) (.pair (.int .i64) (.pair (.int .i64) (.slice (.int .u8))))) a)))), (1, .one (.c (.d (.sl (.pair (.int .i64) (.pair (.int .i64) (.pair (.int .i64) (.slice (.int .u8))))) b)))), (5, .one (.c (.ptr 0 0))), (7, .one (.c (.own 1 (.pair (.int .i64) (.pair (.int .i64) (.pair (.int .i64) .str))) m))), (8, .one (.c (.d (.int .i64 (IntKind.wrap .i64 (i + 1)))))), (9, .one (.c (.d (.int .i64 k)))), (10, .one (.c (.d (.int .i64 (IntKind.wrap .i64 (n_ + 1))))))], [(1, some ⟨84, 0⟩)], [(0, [.d (.int .i64 x_0), .d (.int .i64 x_1)])], 2⟩ [] (by kernel_rfl) trivial ?_
                    exact ih a b m (IntKind.wrap .i64 (i + 1)) k (IntKind.wrap .i64 (n_ + 1)) x_0 x_1 w h o hk
                · refine At.step hm ht ⟨[], [false], [], [0, 1, 5, 7, 8, 9, 10], [0, 1]⟩ 15 ⟨[(0, .one (.c (.d (.sl (.pair (.int .i64) (.pair (.int .i64) (.pair (.int .i64) (.slice (.int .u8))))) a)))), (1, .one (.c (.d (.sl (.pair (.int .i64) (.pair (.int .i64) (.pair (.int .i64) (.slice (.int .u8))))) b)))), (5, .one (.c (.ptr 0 0))), (7, .one (.c (.own 1 (.pair (.int .i64) (.pair (.int .i64) (.pair (.int .i64) .str))) m))), (8, .one (.c (.d (.int .i64 i)))), (9, .one (.c (.d (.int .i64 k)))), (10, .one (.c (.d (.int .i64 n_))))], [(1, some ⟨84, 0⟩)], [(0, [.d (.int .i64 x_0), .d (.int .i64 x_1)])], 2⟩ [(decide ((((a.getD i.toNat (0, (0, (0, [])))).1) : Int) ≤ ((b.getD k.toNat (0, (0, (0, [])))).1))) = false] (by kernel_rfl) ⟨b155_e0, trivial⟩ ?_
                  obtain ⟨g160_0, h⟩ := ifS h
                  obtain ⟨g160_1, h⟩ := ifS h
                  obtain ⟨r160_2, cr160_2, h⟩ := bindS h
                  obtain ⟨g160_3, h⟩ := ifS h
                  rcases iteS h with ⟨b160_e0, h⟩ | ⟨b160_e0, h⟩
                  · refine At.step hm ht ⟨[(11, .call [] [] (f22_broughamlaw34_plain_out r160_2))], [true], [], [], []⟩ 16 ⟨[], [], [], 0⟩ [(0 : Int) ≤ n_ ∧ n_ < (((m).length : Nat) : Int), cutOk b.length (some k) (some (IntKind.wrap .i64 (k + 1))) (some (IntKind.wrap .i64 (k + 1))), FnOK Go.Proofs.Try.prog 22 (f22_broughamlaw34_plain_in ((b.take (IntKind.wrap .i64 (k + 1)).toNat).drop k.toNat)) (f22_broughamlaw34_plain_out r160_2), (0 : Int) ≤ 0 ∧ 0 < (((r160_2).length : Nat) : Int), (!(((((m.getD n_.toNat (0, (0, (0, ByteArray.empty)))).1) : Int) == ((r160_2.getD 0 (0, (0, (0, ByteArray.empty)))).1)) && ((((((m.getD n_.toNat (0, (0, (0, ByteArray.empty)))).2).1) : Int) == (((r160_2.getD 0 (0, (0, (0, ByteArray.empty)))).2).1)) && (((((((m.getD n_.toNat (0, (0, (0, ByteArray.empty)))).2).2).1) : Int) == ((((r160_2.getD 0 (0, (0, (0, ByteArray.empty)))).2).2).1)) && (((((m.getD n_.toNat (0, (0, (0, ByteArray.empty)))).2).2).2).toList == ((((r160_2.getD 0 (0, (0, (0, ByteArray.empty)))).2).2).2).toList))))) = true] (by kernel_rfl) ⟨g160_0, g160_1, (f22_broughamlaw34_plain_ok n ((b.take (IntKind.wrap .i64 (k + 1)).toNat).drop k.toNat) r160_2 cr160_2), g160_3, b160_e0, trivial⟩ ?_
                    have h := Option.some.inj h
                    subst h
                    have hk : o = f8_broughamlaw34_CaptureMerges_out false := hk
                    subst hk
                    exact At.fin hm ht ⟨[], [], [], [6], []⟩ [] (by kernel_rfl) trivial
                  · refine At.step hm ht ⟨[(11, .call [] [] (f22_broughamlaw34_plain_out r160_2))], [false], [], [0, 1, 5, 7, 8, 9, 10], [0, 1]⟩ 17 ⟨[(0, .one (.c (.d (.sl (.pair (.int .i64) (.pair (.int .i64) (.pair (.int .i64) (.slice (.int .u8))))) a)))), (1, .one (.c (.d (.sl (.pair (.int .i64) (.pair (.int .i64) (.pair (.int .i64) (.slice (.int .u8))))) b)))), (5, .one (.c (.ptr 0 0))), (7, .one (.c (.own 1 (.pair (.int .i64) (.pair (.int .i64) (.pair (.int .i64) .str))) m))), (8, .one (.c (.d (.int .i64 i)))), (9, .one (.c (.d (.int .i64 k)))), (10, .one (.c (.d (.int .i64 n_))))], [(1, some ⟨84, 0⟩)], [(0, [.d (.int .i64 x_0), .d (.int .i64 x_1)])], 2⟩ [(0 : Int) ≤ n_ ∧ n_ < (((m).length : Nat) : Int), cutOk b.length (some k) (some (IntKind.wrap .i64 (k + 1))) (some (IntKind.wrap .i64 (k + 1))), FnOK Go.Proofs.Try.prog 22 (f22_broughamlaw34_plain_in ((b.take (IntKind.wrap .i64 (k + 1)).toNat).drop k.toNat)) (f22_broughamlaw34_plain_out r160_2), (0 : Int) ≤ 0 ∧ 0 < (((r160_2).length : Nat) : Int), (!(((((m.getD n_.toNat (0, (0, (0, ByteArray.empty)))).1) : Int) == ((r160_2.getD 0 (0, (0, (0, ByteArray.empty)))).1)) && ((((((m.getD n_.toNat (0, (0, (0, ByteArray.empty)))).2).1) : Int) == (((r160_2.getD 0 (0, (0, (0, ByteArray.empty)))).2).1)) && (((((((m.getD n_.toNat (0, (0, (0, ByteArray.empty)))).2).2).1) : Int) == ((((r160_2.getD 0 (0, (0, (0, ByteArray.empty)))).2).2).1)) && (((((m.getD n_.toNat (0, (0, (0, ByteArray.empty)))).2).2).2).toList == ((((r160_2.getD 0 (0, (0, (0, ByteArray.empty)))).2).2).2).toList))))) = false] (by kernel_rfl) ⟨g160_0, g160_1, (f22_broughamlaw34_plain_ok n ((b.take (IntKind.wrap .i64 (k + 1)).toNat).drop k.toNat) r160_2 cr160_2), g160_3, b160_e0, trivial⟩ ?_
                    refine At.step hm ht ⟨[], [], [], [0, 1, 5, 7, 8, 9, 10], [0, 1]⟩ 7 ⟨[(0, .one (.c (.d (.sl (.pair (.int .i64) (.pair (.int .i64) (.pair (.int .i64) (.slice (.int .u8))))) a)))), (1, .one (.c (.d (.sl (.pair (.int .i64) (.pair (.int .i64) (.pair (.int .i64) (.slice (.int .u8))))) b)))), (5, .one (.c (.ptr 0 0))), (7, .one (.c (.own 1 (.pair (.int .i64) (.pair (.int .i64) (.pair (.int .i64) .str))) m))), (8, .one (.c (.d (.int .i64 i)))), (9, .one (.c (.d (.int .i64 (IntKind.wrap .i64 (k + 1)))))), (10, .one (.c (.d (.int .i64 n_))))], [(1, some ⟨84, 0⟩)], [(0, [.d (.int .i64 x_0), .d (.int .i64 x_1)])], 2⟩ [] (by kernel_rfl) trivial ?_
                    refine At.step hm ht ⟨[], [], [], [0, 1, 5, 7, 8, 9, 10], [0, 1]⟩ 6 ⟨[(0, .one (.c (.d (.sl (.pair (.int .i64) (.pair (.int .i64) (.pair (.int .i64) (.slice (.int .u8))))) a)))), (1, .one (.c (.d (.sl (.pair (.int .i64) (.pair (.int .i64) (.pair (.int .i64) (.slice (.int .u8))))) b)))), (5, .one (.c (.ptr 0 0))), (7, .one (.c (.own 1 (.pair (.int .i64) (.pair (.int .i64) (.pair (.int .i64) .str))) m))), (8, .one (.c (.d (.int .i64 i)))), (9, .one (.c (.d (.int .i64 (IntKind.wrap .i64 (k + 1)))))), (10, .one (.c (.d (.int .i64 (IntKind.wrap .i64 (n_ + 1))))))], [(1, some ⟨84, 0⟩)], [(0, [.d (.int .i64 x_0), .d (.int .i64 x_1)])], 2⟩ [] (by kernel_rfl) trivial ?_
                    exact ih a b m i (IntKind.wrap .i64 (k + 1)) (IntKind.wrap .i64 (n_ + 1)) x_0 x_1 w h o hk
            · refine At.step hm ht ⟨[(5, .b false), (10, .b false)], [false], [], [0, 1, 5, 7, 8, 9, 10, 11], [0, 1]⟩ 11 ⟨[(0, .one (.c (.d (.sl (.pair (.int .i64) (.pair (.int .i64) (.pair (.int .i64) (.slice (.int .u8))))) a)))), (1, .one (.c (.d (.sl (.pair (.int .i64) (.pair (.int .i64) (.pair (.int .i64) (.slice (.int .u8))))) b)))), (5, .one (.c (.ptr 0 0))), (7, .one (.c (.own 1 (.pair (.int .i64) (.pair (.int .i64) (.pair (.int .i64) .str))) m))), (8, .one (.c (.d (.int .i64 i)))), (9, .one (.c (.d (.int .i64 k)))), (10, .one (.c (.d (.int .i64 n_)))), (11, .one (.c (.d (.bool (decide ((((a.getD i.toNat (0, (0, (0, [])))).1) : Int) ≤ ((b.getD k.toNat (0, (0, (0, [])))).1)))))))], [(1, some ⟨84, 0⟩)], [(0, [.d (.int .i64 x_0), .d (.int .i64 x_1)])], 2⟩ [(((IntKind.wrap .i64 (i + k)) : Int) != n_) = false, ((i : Int) == ((a.length : Nat) : Int)) = false, false = false] (by kernel_rfl) ⟨b152_5, b152_10, rfl, trivial⟩ ?_
              rcases iteS h with ⟨b164_e0, h⟩ | ⟨b164_e0, h⟩
              · refine At.step hm ht ⟨[], [true], [], [0, 1, 5, 7, 8, 9, 10], [0, 1]⟩ 12 ⟨[(0, .one (.c (.d (.sl (.pair (.int .i64) (.pair (.int .i64) (.pair (.int .i64) (.slice (.int .u8))))) a)))), (1, .one (.c (.d (.sl (.pair (.int .i64) (.pair (.int .i64) (.pair (.int .i64) (.slice (.int .u8))))) b)))), (5, .one (.c (.ptr 0 0))), (7, .one (.c (.own 1 (.pair (.int .i64) (.pair (.int .i64) (.pair (.int .i64) .str))) m))), (8, .one (.c (.d (.int .i64 i)))), (9, .one (.c (.d (.int .i64 k)))), (10, .one (.c (.d (.int .i64 n_))))], [(1, some ⟨84, 0⟩)], [(0, [.d (.int .i64 x_0), .d (.int .i64 x_1)])], 2⟩ [(decide ((((a.getD i.toNat (0, (0, (0, [])))).1) : Int) ≤ ((b.getD k.toNat (0, (0, (0, [])))).1))) = true] (by kernel_rfl) ⟨b164_e0, trivial⟩ ?_
                obtain ⟨g165_0, h⟩ := ifS h
                obtain ⟨g165_1, h⟩ := ifS h
                obtain ⟨r165_2, cr165_2, h⟩ := bindS h
                obtain ⟨g165_3, h⟩ := ifS h
                rcases iteS h with ⟨b165_e0, h⟩ | ⟨b165_e0, h⟩
                · refine At.step hm ht ⟨[(11, .call [] [] (f22_broughamlaw34_plain_out r165_2))], [true], [], [], []⟩ 13 ⟨[], [], [], 0⟩ [(0 : Int) ≤ n_ ∧ n_ < (((m).length : Nat) : Int), cutOk a.length (some i) (some (IntKind.wrap .i64 (i + 1))) (some (IntKind.wrap .i64 (i + 1))), FnOK Go.Proofs.Try.prog 22 (f22_broughamlaw34_plain_in ((a.take (IntKind.wrap .i64 (i + 1)).toNat).drop i.toNat)) (f22_broughamlaw34_plain_out r165_2), (0 : Int) ≤ 0 ∧ 0 < (((r165_2).length : Nat) : Int), (!(((((m.getD n_.toNat (0, (0, (0, ByteArray.empty)))).1) : Int) == ((r165_2.getD 0 (0, (0, (0, ByteArray.empty)))).1)) && ((((((m.getD n_.toNat (0, (0, (0, ByteArray.empty)))).2).1) : Int) == (((r165_2.getD 0 (0, (0, (0, ByteArray.empty)))).2).1)) && (((((((m.getD n_.toNat (0, (0, (0, ByteArray.empty)))).2).2).1) : Int) == ((((r165_2.getD 0 (0, (0, (0, ByteArray.empty)))).2).2).1)) && (((((m.getD n_.toNat (0, (0, (0, ByteArray.empty)))).2).2).2).toList == ((((r165_2.getD 0 (0, (0, (0, ByteArray.empty)))).2).2).2).toList))))) = true] (by kernel_rfl) ⟨g165_0, g165_1, (f22_broughamlaw34_plain_ok n ((a.take (IntKind.wrap .i64 (i + 1)).toNat).drop i.toNat) r165_2 cr165_2), g165_3, b165_e0, trivial⟩ ?_
                  have h := Option.some.inj h
                  subst h
                  have hk : o = f8_broughamlaw34_CaptureMerges_out false := hk
                  subst hk
                  exact At.fin hm ht ⟨[], [], [], [6], []⟩ [] (by kernel_rfl) trivial
                · refine At.step hm ht ⟨[(11, .call [] [] (f22_broughamlaw34_plain_out r165_2))], [false], [], [0, 1, 5, 7, 8, 9, 10], [0, 1]⟩ 14 ⟨[(0, .one (.c (.d (.sl (.pair (.int .i64) (.pair (.int .i64) (.pair (.int .i64) (.slice (.int .u8))))) a)))), (1, .one (.c (.d (.sl (.pair (.int .i64) (.pair (.int .i64) (.pair (.int .i64) (.slice (.int .u8))))) b)))), (5, .one (.c (.ptr 0 0))), (7, .one (.c (.own 1 (.pair (.int .i64) (.pair (.int .i64) (.pair (.int .i64) .str))) m))), (8, .one (.c (.d (.int .i64 i)))), (9, .one (.c (.d (.int .i64 k)))), (10, .one (.c (.d (.int .i64 n_))))], [(1, some ⟨84, 0⟩)], [(0, [.d (.int .i64 x_0), .d (.int .i64 x_1)])], 2⟩ [(0 : Int) ≤ n_ ∧ n_ < (((m).length : Nat) : Int), cutOk a.length (some i) (some (IntKind.wrap .i64 (i + 1))) (some (IntKind.wrap .i64 (i + 1))), FnOK Go.Proofs.Try.prog 22 (f22_broughamlaw34_plain_in ((a.take (IntKind.wrap .i64 (i + 1)).toNat).drop i.toNat)) (f22_broughamlaw34_plain_out r165_2), (0 : Int) ≤ 0 ∧ 0 < (((r165_2).length : Nat) : Int), (!(((((m.getD n_.toNat (0, (0, (0, ByteArray.empty)))).1) : Int) == ((r165_2.getD 0 (0, (0, (0, ByteArray.empty)))).1)) && ((((((m.getD n_.toNat (0, (0, (0, ByteArray.empty)))).2).1) : Int) == (((r165_2.getD 0 (0, (0, (0, ByteArray.empty)))).2).1)) && (((((((m.getD n_.toNat (0, (0, (0, ByteArray.empty)))).2).2).1) : Int) == ((((r165_2.getD 0 (0, (0, (0, ByteArray.empty)))).2).2).1)) && (((((m.getD n_.toNat (0, (0, (0, ByteArray.empty)))).2).2).2).toList == ((((r165_2.getD 0 (0, (0, (0, ByteArray.empty)))).2).2).2).toList))))) = false] (by kernel_rfl) ⟨g165_0, g165_1, (f22_broughamlaw34_plain_ok n ((a.take (IntKind.wrap .i64 (i + 1)).toNat).drop i.toNat) r165_2 cr165_2), g165_3, b165_e0, trivial⟩ ?_
                  refine At.step hm ht ⟨[], [], [], [0, 1, 5, 7, 8, 9, 10], [0, 1]⟩ 7 ⟨[(0, .one (.c (.d (.sl (.pair (.int .i64) (.pair (.int .i64) (.pair (.int .i64) (.slice (.int .u8))))) a)))), (1, .one (.c (.d (.sl (.pair (.int .i64) (.pair (.int .i64) (.pair (.int .i64) (.slice (.int .u8))))) b)))), (5, .one (.c (.ptr 0 0))), (7, .one (.c (.own 1 (.pair (.int .i64) (.pair (.int .i64) (.pair (.int .i64) .str))) m))), (8, .one (.c (.d (.int .i64 (IntKind.wrap .i64 (i + 1)))))), (9, .one (.c (.d (.int .i64 k)))), (10, .one (.c (.d (.int .i64 n_))))], [(1, some ⟨84, 0⟩)], [(0, [.d (.int .i64 x_0), .d (.int .i64 x_1)])], 2⟩ [] (by kernel_rfl) trivial ?_
                  refine At.step hm ht ⟨[], [], [], [0, 1, 5, 7, 8, 9, 10], [0, 1]⟩ 6 ⟨[(0, .one (.c (.d (.sl (.pair (.int .i64) (.pair (.int .i64) (.pair (.int .i64) (.slice (.int .u8))))) a)))), (1, .one (.c (.d (.sl (.pair (.int .i64) (.pair (.int .i64) (.pair (.int .i64) (.slice (.int .u8))))) b)))), (5, .one (.c (.ptr 0 0))), (7, .one (.c (.own 1 (.pair (.int .i64) (.pair (.int .i64) (.pair (.int .i64) .str))) m))), (8, .one (.c (.d (.int .i64 (IntKind.wrap .i64 (i + 1)))))), (9, .one (.c (.d (.int .i64 k)))), (10, .one (.c (.d (.int .i64 (IntKind.wrap .i64 (n_ + 1))))))], [(1, some ⟨84, 0⟩)], [(0, [.d (.int .i64 x_0), .d (.int .i64 x_1)])], 2⟩ [] (by kernel_rfl) trivial ?_
                  exact ih a b m (IntKind.wrap .i64 (i + 1)) k (IntKind.wrap .i64 (n_ + 1)) x_0 x_1 w h o hk
              · refine At.step hm ht ⟨[], [false], [], [0, 1, 5, 7, 8, 9, 10], [0, 1]⟩ 15 ⟨[(0, .one (.c (.d (.sl (.pair (.int .i64) (.pair (.int .i64) (.pair (.int .i64) (.slice (.int .u8))))) a)))), (1, .one (.c (.d (.sl (.pair (.int .i64) (.pair (.int .i64) (.pair (.int .i64) (.slice (.int .u8))))) b)))), (5, .one (.c (.ptr 0 0))), (7, .one (.c (.own 1 (.pair (.int .i64) (.pair (.int .i64) (.pair (.int .i64) .str))) m))), (8, .one (.c (.d (.int .i64 i)))), (9, .one (.c (.d (.int .i64 k)))), (10, .one (.c (.d (.int .i64 n_))))], [(1, some ⟨84, 0⟩)], [(0, [.d (.int .i64 x_0), .d (.int .i64 x_1)])], 2⟩ [(decide ((((a.getD i.toNat (0, (0, (0, [])))).1) : Int) ≤ ((b.getD k.toNat (0, (0, (0, [])))).1))) = false] (by kernel_rfl) ⟨b164_e0, trivial⟩ ?_
                obtain ⟨g169_0, h⟩ := ifS h
                obtain ⟨g169_1, h⟩ := ifS h
                obtain ⟨r169_2, cr169_2, h⟩ := bindS h
                obtain ⟨g169_3, h⟩ := ifS h
                rcases iteS h with ⟨b169_e0, h⟩ | ⟨b169_e0, h⟩
                · refine At.step hm ht ⟨[(11, .call [] [] (f22_broughamlaw34_plain_out r169_2))], [true], [], [], []⟩ 16 ⟨[], [], [], 0⟩ [(0 : Int) ≤ n_ ∧ n_ < (((m).length : Nat) : Int), cutOk b.length (some k) (some (IntKind.wrap .i64 (k + 1))) (some (IntKind.wrap .i64 (k + 1))), FnOK Go.Proofs.Try.prog 22 (f22_broughamlaw34_plain_in ((b.take (IntKind.wrap .i64 (k + 1)).toNat).drop k.toNat)) (f22_broughamlaw34_plain_out r169_2), (0 : Int) ≤ 0 ∧ 0 < (((r169_2).length : Nat) : Int), (!(((((m.getD n_.toNat (0, (0, (0, ByteArray.empty)))).1) : Int) == ((r169_2.getD 0 (0, (0, (0, ByteArray.empty)))).1)) && ((((((m.getD n_.toNat (0, (0, (0, ByteArray.empty)))).2).1) : Int) == (((r169_2.getD 0 (0, (0, (0, ByteArray.empty)))).2).1)) && (((((((m.getD n_.toNat (0, (0, (0, ByteArray.empty)))).2).2).1) : Int) == ((((r169_2.getD 0 (0, (0, (0, ByteArray.empty)))).2).2).1)) && (((((m.getD n_.toNat (0, (0, (0, ByteArray.empty)))).2).2).2).toList == ((((r169_2.getD 0 (0, (0, (0, ByteArray.empty)))).2).2).2).toList))))) = true] (by kernel_rfl) ⟨g169_0, g169_1, (f22_broughamlaw34_plain_ok n ((b.take (IntKind.wrap .i64 (k + 1)).toNat).drop k.toNat) r169_2 cr169_2), g169_3, b169_e0, trivial⟩ ?_
                  have h := Option.some.inj h
                  subst h
                  have hk : o = f8_broughamlaw34_CaptureMerges_out false := hk
                  subst hk
                  exact At.fin hm ht ⟨[], [], [], [6], []⟩ [] (by kernel_rfl) trivial
                · refine At.step hm ht ⟨[(11, .call [] [] (f22_broughamlaw34_plain_out r169_2))], [false], [], [0, 1, 5, 7, 8, 9, 10], [0, 1]⟩ 17 ⟨[(0, .one (.c (.d (.sl (.pair (.int .i64) (.pair (.int .i64) (.pair (.int .i64) (.slice (.int .u8))))) a)))), (1, .one (.c (.d (.sl (.pair (.int .i64) (.pair (.int .i64) (.pair (.int .i64) (.slice (.int .u8))))) b)))), (5, .one (.c (.ptr 0 0))), (7, .one (.c (.own 1 (.pair (.int .i64) (.pair (.int .i64) (.pair (.int .i64) .str))) m))), (8, .one (.c (.d (.int .i64 i)))), (9, .one (.c (.d (.int .i64 k)))), (10, .one (.c (.d (.int .i64 n_))))], [(1, some ⟨84, 0⟩)], [(0, [.d (.int .i64 x_0), .d (.int .i64 x_1)])], 2⟩ [(0 : Int) ≤ n_ ∧ n_ < (((m).length : Nat) : Int), cutOk b.length (some k) (some (IntKind.wrap .i64 (k + 1))) (some (IntKind.wrap .i64 (k + 1))), FnOK Go.Proofs.Try.prog 22 (f22_broughamlaw34_plain_in ((b.take (IntKind.wrap .i64 (k + 1)).toNat).drop k.toNat)) (f22_broughamlaw34_plain_out r169_2), (0 : Int) ≤ 0 ∧ 0 < (((r169_2).length : Nat) : Int), (!(((((m.getD n_.toNat (0, (0, (0, ByteArray.empty)))).1) : Int) == ((r169_2.getD 0 (0, (0, (0, ByteArray.empty)))).1)) && ((((((m.getD n_.toNat (0, (0, (0, ByteArray.empty)))).2).1) : Int) == (((r169_2.getD 0 (0, (0, (0, ByteArray.empty)))).2).1)) && (((((((m.getD n_.toNat (0, (0, (0, ByteArray.empty)))).2).2).1) : Int) == ((((r169_2.getD 0 (0, (0, (0, ByteArray.empty)))).2).2).1)) && (((((m.getD n_.toNat (0, (0, (0, ByteArray.empty)))).2).2).2).toList == ((((r169_2.getD 0 (0, (0, (0, ByteArray.empty)))).2).2).2).toList))))) = false] (by kernel_rfl) ⟨g169_0, g169_1, (f22_broughamlaw34_plain_ok n ((b.take (IntKind.wrap .i64 (k + 1)).toNat).drop k.toNat) r169_2 cr169_2), g169_3, b169_e0, trivial⟩ ?_
                  refine At.step hm ht ⟨[], [], [], [0, 1, 5, 7, 8, 9, 10], [0, 1]⟩ 7 ⟨[(0, .one (.c (.d (.sl (.pair (.int .i64) (.pair (.int .i64) (.pair (.int .i64) (.slice (.int .u8))))) a)))), (1, .one (.c (.d (.sl (.pair (.int .i64) (.pair (.int .i64) (.pair (.int .i64) (.slice (.int .u8))))) b)))), (5, .one (.c (.ptr 0 0))), (7, .one (.c (.own 1 (.pair (.int .i64) (.pair (.int .i64) (.pair (.int .i64) .str))) m))), (8, .one (.c (.d (.int .i64 i)))), (9, .one (.c (.d (.int .i64 (IntKind.wrap .i64 (k + 1)))))), (10, .one (.c (.d (.int .i64 n_))))], [(1, some ⟨84, 0⟩)], [(0, [.d (.int .i64 x_0), .d (.int .i64 x_1)])], 2⟩ [] (by kernel_rfl) trivial ?_
                  refine At.step hm ht ⟨[], [], [], [0, 1, 5, 7, 8, 9, 10], [0, 1]⟩ 6 ⟨[(0, .one (.c (.d (.sl (.pair (.int .i64) (.pair (.int .i64) (.pair (.int .i64) (.slice (.int .u8))))) a)))), (1, .one (.c (.d (.sl (.pair (.int .i64) (.pair (.int .i64) (.pair (.int .i64) (.slice (.int .u8))))) b)))), (5, .one (.c (.ptr 0 0))), (7, .one (.c (.own 1 (.pair (.int .i64) (.pair (.int .i64) (.pair (.int .i64) .str))) m))), (8, .one (.c (.d (.int .i64 i)))), (9, .one (.c (.d (.int .i64 (IntKind.wrap .i64 (k + 1)))))), (10, .one (.c (.d (.int .i64 (IntKind.wrap .i64 (n_ + 1))))))], [(1, some ⟨84, 0⟩)], [(0, [.d (.int .i64 x_0), .d (.int .i64 x_1)])], 2⟩ [] (by kernel_rfl) trivial ?_
                  exact ih a b m i (IntKind.wrap .i64 (k + 1)) (IntKind.wrap .i64 (n_ + 1)) x_0 x_1 w h o hk
        · refine At.step hm ht ⟨[(4, .b false), (9, .b false)], [], [], [0, 1, 5, 7, 8, 9, 10, 11], [0, 1]⟩ 9 ⟨[(0, .one (.c (.d (.sl (.pair (.int .i64) (.pair (.int .i64) (.pair (.int .i64) (.slice (.int .u8))))) a)))), (1, .one (.c (.d (.sl (.pair (.int .i64) (.pair (.int .i64) (.pair (.int .i64) (.slice (.int .u8))))) b)))), (5, .one (.c (.ptr 0 0))), (7, .one (.c (.own 1 (.pair (.int .i64) (.pair (.int .i64) (.pair (.int .i64) .str))) m))), (8, .one (.c (.d (.int .i64 i)))), (9, .one (.c (.d (.int .i64 k)))), (10, .one (.c (.d (.int .i64 n_)))), (11, .one (.c (.d (.bool false))))], [(1, some ⟨84, 0⟩)], [(0, [.d (.int .i64 x_0), .d (.int .i64 x_1)])], 2⟩ [((k : Int) == ((b.length : Nat) : Int)) = false, (decide ((i : Int) < ((a.length : Nat) : Int))) = false] (by kernel_rfl) ⟨b138_4, b138_9, trivial⟩ ?_
          rcases iteS h with ⟨b173_5, h⟩ | ⟨b173_5, h⟩
          · refine At.step hm ht ⟨[(5, .b true)], [true], [], [], []⟩ 10 ⟨[], [], [], 0⟩ [(((IntKind.wrap .i64 (i + k)) : Int) != n_) = true, true = true] (by kernel_rfl) ⟨b173_5, rfl, trivial⟩ ?_
            have h := Option.some.inj h
            subst h
            have hk : o = f8_broughamlaw34_CaptureMerges_out false := hk
            subst hk
            exact At.fin hm ht ⟨[], [], [], [6], []⟩ [] (by kernel_rfl) trivial
          · rcases iteS h with ⟨b173_10, h⟩ | ⟨b173_10, h⟩
            · rcases iteS h with ⟨b173_e0, h⟩ | ⟨b173_e0, h⟩
              · refine At.step hm ht ⟨[(5, .b false), (10, .b true)], [true], [], [], []⟩ 10 ⟨[], [], [], 0⟩ [(((IntKind.wrap .i64 (i + k)) : Int) != n_) = false, ((i : Int) == ((a.length : Nat) : Int)) = true, ((k : Int) == ((b.length : Nat) : Int)) = true] (by kernel_rfl) ⟨b173_5, b173_10, b173_e0, trivial⟩ ?_
                have h := Option.some.inj h
                subst h
                have hk : o = f8_broughamlaw34_CaptureMerges_out false := hk
                subst hk
                exact At.fin hm ht ⟨[], [], [], [6], []⟩ [] (by kernel_rfl) trivial
              · refine At.step hm ht ⟨[(5, .b false), (10, .b true)], [false], [], [0, 1, 5, 7, 8, 9, 10, 11], [0, 1]⟩ 11 ⟨[(0, .one (.c (.d (.sl (.pair (.int .i64) (.pair (.int .i64) (.pair (.int .i64) (.slice (.int .u8))))) a)))), (1, .one (.c (.d (.sl (.pair (.int .i64) (.pair (.int .i64) (.pair (.int .i64) (.slice (.int .u8))))) b)))), (5, .one (.c (.ptr 0 0))), (7, .one (.c (.own 1 (.pair (.int .i64) (.pair (.int .i64) (.pair (.int .i64) .str))) m))), (8, .one (.c (.d (.int .i64 i)))), (9, .one (.c (.d (.int .i64 k)))), (10, .one (.c (.d (.int .i64 n_)))), (11, .one (.c (.d (.bool false))))], [(1, some ⟨84, 0⟩)], [(0, [.d (.int .i64 x_0), .d (.int .i64 x_1)])], 2⟩ [(((IntKind.wrap .i64 (i + k)) : Int) != n_) = false, ((i : Int) == ((a.length : Nat) : Int)) = true, ((k : Int) == ((b.length : Nat) : Int)) = false] (by kernel_rfl) ⟨b173_5, b173_10, b173_e0, trivial⟩ ?_
                refine At.step hm ht ⟨[], [false], [], [0, 1, 5, 7, 8, 9, 10], [0, 1]⟩ 15 ⟨[(0, .one (.c (.d (.sl (.pair (.int .i64) (.pair (.int .i64) (.pair (.int .i64) (.slice (.int .u8))))) a)))), (1, .one (.c (.d (.sl (.pair (.int .i64) (.pair (.int .i64) (.pair (.int .i64) (.slice (.int .u8))))) b)))), (5, .one (.c (.ptr 0 0))), (7, .one (.c (.own 1 (.pair (.int .i64) (.pair (.int .i64) (.pair (.int .i64) .str))) m))), (8, .one (.c (.d (.int .i64 i)))), (9, .one (.c (.d (.int .i64 k)))), (10, .one (.c (.d (.int .i64 n_))))], [(1, some ⟨84, 0⟩)], [(0, [.d (.int .i64 x_0), .d (.int .i64 x_1)])], 2⟩ [false = false] (by kernel_rfl) ⟨rfl, trivial⟩ ?_
                obtain ⟨g177_0, h⟩ := ifS h
                obtain ⟨g177_1, h⟩ := ifS h
                obtain ⟨r177_2, cr177_2, h⟩ := bindS h
                obtain ⟨g177_3, h⟩ := ifS h
                rcases iteS h with ⟨b177_e0, h⟩ | ⟨b177_e0, h⟩
                · refine At.step hm ht ⟨[(11, .call [] [] (f22_broughamlaw34_plain_out r177_2))], [true], [], [], []⟩ 16 ⟨[], [], [], 0⟩ [(0 : Int) ≤ n_ ∧ n_ < (((m).length : Nat) : Int), cutOk b.length (some k) (some (IntKind.wrap .i64 (k + 1))) (some (IntKind.wrap .i64 (k + 1))), FnOK Go.Proofs.Try.prog 22 (f22_broughamlaw34_plain_in ((b.take (IntKind.wrap .i64 (k + 1)).toNat).drop k.toNat)) (f22_broughamlaw34_plain_out r177_2), (0 : Int) ≤ 0 ∧ 0 < (((r177_2).length : Nat) : Int), (!(((((m.getD n_.toNat (0, (0, (0, ByteArray.empty)))).1) : Int) == ((r177_2.getD 0 (0, (0, (0, ByteArray.empty)))).1)) && ((((((m.getD n_.toNat (0, (0, (0, ByteArray.empty)))).2).1) : Int) == (((r177_2.getD 0 (0, (0, (0, ByteArray.empty)))).2).1)) && (((((((m.getD n_.toNat (0, (0, (0, ByteArray.empty)))).2).2).1) : Int) == ((((r177_2.getD 0 (0, (0, (0, ByteArray.empty)))).2).2).1)) && (((((m.getD n_.toNat (0, (0, (0, ByteArray.empty)))).2).2).2).toList == ((((r177_2.getD 0 (0, (0, (0, ByteArray.empty)))).2).2).2).toList))))) = true] (by kernel_rfl) ⟨g177_0, g177_1, (f22_broughamlaw34_plain_ok n ((b.take (IntKind.wrap .i64 (k + 1)).toNat).drop k.toNat) r177_2 cr177_2), g177_3, b177_e0, trivial⟩ ?_
                  have h := Option.some.inj h
                  subst h
                  have hk : o = f8_broughamlaw34_CaptureMerges_out false := hk
                  subst hk
                  exact At.fin hm ht ⟨[], [], [], [6], []⟩ [] (by kernel_rfl) trivial
                · refine At.step hm ht ⟨[(11, .call [] [] (f22_broughamlaw34_plain_out r177_2))], [false], [], [0, 1, 5, 7, 8, 9, 10], [0, 1]⟩ 17 ⟨[(0, .one (.c (.d (.sl (.pair (.int .i64) (.pair (.int .i64) (.pair (.int .i64) (.slice (.int .u8))))) a)))), (1, .one (.c (.d (.sl (.pair (.int .i64) (.pair (.int .i64) (.pair (.int .i64) (.slice (.int .u8))))) b)))), (5, .one (.c (.ptr 0 0))), (7, .one (.c (.own 1 (.pair (.int .i64) (.pair (.int .i64) (.pair (.int .i64) .str))) m))), (8, .one (.c (.d (.int .i64 i)))), (9, .one (.c (.d (.int .i64 k)))), (10, .one (.c (.d (.int .i64 n_))))], [(1, some ⟨84, 0⟩)], [(0, [.d (.int .i64 x_0), .d (.int .i64 x_1)])], 2⟩ [(0 : Int) ≤ n_ ∧ n_ < (((m).length : Nat) : Int), cutOk b.length (some k) (some (IntKind.wrap .i64 (k + 1))) (some (IntKind.wrap .i64 (k + 1))), FnOK Go.Proofs.Try.prog 22 (f22_broughamlaw34_plain_in ((b.take (IntKind.wrap .i64 (k + 1)).toNat).drop k.toNat)) (f22_broughamlaw34_plain_out r177_2), (0 : Int) ≤ 0 ∧ 0 < (((r177_2).length : Nat) : Int), (!(((((m.getD n_.toNat (0, (0, (0, ByteArray.empty)))).1) : Int) == ((r177_2.getD 0 (0, (0, (0, ByteArray.empty)))).1)) && ((((((m.getD n_.toNat (0, (0, (0, ByteArray.empty)))).2).1) : Int) == (((r177_2.getD 0 (0, (0, (0, ByteArray.empty)))).2).1)) && (((((((m.getD n_.toNat (0, (0, (0, ByteArray.empty)))).2).2).1) : Int) == ((((r177_2.getD 0 (0, (0, (0, ByteArray.empty)))).2).2).1)) && (((((m.getD n_.toNat (0, (0, (0, ByteArray.empty)))).2).2).2).toList == ((((r177_2.getD 0 (0, (0, (0, ByteArray.empty)))).2).2).2).toList))))) = false] (by kernel_rfl) ⟨g177_0, g177_1, (f22_broughamlaw34_plain_ok n ((b.take (IntKind.wrap .i64 (k + 1)).toNat).drop k.toNat) r177_2 cr177_2), g177_3, b177_e0, trivial⟩ ?_
                  refine At.step hm ht ⟨[], [], [], [0, 1, 5, 7, 8, 9, 10], [0, 1]⟩ 7 ⟨[(0, .one (.c (.d (.sl (.pair (.int .i64) (.pair (.int .i64) (.pair (.int .i64) (.slice (.int .u8))))) a)))), (1, .one (.c (.d (.sl (.pair (.int .i64) (.pair (.int .i64) (.pair (.int .i64) (.slice (.int .u8))))) b)))), (5, .one (.c (.ptr 0 0))), (7, .one (.c (.own 1 (.pair (.int .i64) (.pair (.int .i64) (.pair (.int .i64) .str))) m))), (8, .one (.c (.d (.int .i64 i)))), (9, .one (.c (.d (.int .i64 (IntKind.wrap .i64 (k + 1)))))), (10, .one (.c (.d (.int .i64 n_))))], [(1, some ⟨84, 0⟩)], [(0, [.d (.int .i64 x_0), .d (.int .i64 x_1)])], 2⟩ [] (by kernel_rfl) trivial ?_
                  refine At.step hm ht ⟨[], [], [], [0, 1, 5, 7, 8, 9, 10], [0, 1]⟩ 6 ⟨[(0, .one (.c (.d (.sl (.pair (.int .i64) (.pair (.int .i64) (.pair (.int .i64) (.slice (.int .u8))))) a)))), (1, .one (.c (.d (.sl (.pair (.int .i64) (.pair (.int .i64) (.pair (.int .i64) (.slice (.int .u8))))) b)))), (5, .one (.c (.ptr 0 0))), (7, .one (.c (.own 1 (.pair (.int .i64) (.pair (.int .i64) (.pair (.int .i64) .str))) m))), (8, .one (.c (.d (.int .i64 i)))), (9, .one (.c (.d (.int .i64 (IntKind.wrap .i64 (k + 1)))))), (10, .one (.c (.d (.int .i64 (IntKind.wrap .i64 (n_ + 1))))))], [(1, some ⟨84, 0⟩)], [(0, [.d (.int .i64 x_0), .d (.int .i64 x_1)])], 2⟩ [] (by kernel_rfl) trivial ?_
                  exact ih a b m i (IntKind.wrap .i64 (k + 1)) (IntKind.wrap .i64 (n_ + 1)) x_0 x_1 w h o hk
            · refine At.step hm ht ⟨[(5, .b false), (10, .b false)], [false], [], [0, 1, 5, 7, 8, 9, 10, 11], [0, 1]⟩ 11 ⟨[(0, .one (.c (.d (.sl (.pair (.int .i64) (.pair (.int .i64) (.pair (.int .i64) (.slice (.int .u8))))) a)))), (1, .one (.c (.d (.sl (.pair (.int .i64) (.pair (.int .i64) (.pair (.int .i64) (.slice (.int .u8))))) b)))), (5, .one (.c (.ptr 0 0))), (7, .one (.c (.own 1 (.pair (.int .i64) (.pair (.int .i64) (.pair (.int .i64) .str))) m))), (8, .one (.c (.d (.int .i64 i)))), (9, .one (.c (.d (.int .i64 k)))), (10, .one (.c (.d (.int .i64 n_)))), (11, .one (.c (.d (.bool false))))], [(1, some ⟨84, 0⟩)], [(0, [.d (.int .i64 x_0), .d (.int .i64 x_1)])], 2⟩ [(((IntKind.wrap .i64 (i + k)) : Int) != n_) = false, ((i : Int) == ((a.length : Nat) : Int)) = false, false = false] (by kernel_rfl) ⟨b173_5, b173_10, rfl, trivial⟩ ?_
              refine At.step hm ht ⟨[], [false], [], [0, 1, 5, 7, 8, 9, 10], [0, 1]⟩ 15 ⟨[(0, .one (.c (.d (.sl (.pair (.int .i64) (.pair (.int .i64) (.pair (.int .i64) (.slice (.int .u8))))) a)))), (1, .one (.c (.d (.sl (.pair (.int .i64) (.pair (.int .i64) (.pair (.int .i64) (.slice (.int .u8))))) b)))), (5, .one (.c (.ptr 0 0))), (7, .one (.c (.own 1 (.pair (.int .i64) (.pair (.int .i64) (.pair (.int .i64) .str))) m))), (8, .one (.c (.d (.int .i64 i)))), (9, .one (.c (.d (.int .i64 k)))), (10, .one (.c (.d (.int .i64 n_))))], [(1, some ⟨84, 0⟩)], [(0, [.d (.int .i64 x_0), .d (.int .i64 x_1)])], 2⟩ [false = false] (by kernel_rfl) ⟨rfl, trivial⟩ ?_
              obtain ⟨g182_0, h⟩ := ifS h
              obtain ⟨g182_1, h⟩ := ifS h
              obtain ⟨r182_2, cr182_2, h⟩ := bindS h
              obtain ⟨g182_3, h⟩ := ifS h
              rcases iteS h with ⟨b182_e0, h⟩ | ⟨b182_e0, h⟩
              · refine At.step hm ht ⟨[(11, .call [] [] (f22_broughamlaw34_plain_out r182_2))], [true], [], [], []⟩ 16 ⟨[], [], [], 0⟩ [(0 : Int) ≤ n_ ∧ n_ < (((m).length : Nat) : Int), cutOk b.length (some k) (some (IntKind.wrap .i64 (k + 1))) (some (IntKind.wrap .i64 (k + 1))), FnOK Go.Proofs.Try.prog 22 (f22_broughamlaw34_plain_in ((b.take (IntKind.wrap .i64 (k + 1)).toNat).drop k.toNat)) (f22_broughamlaw34_plain_out r182_2), (0 : Int) ≤ 0 ∧ 0 < (((r182_2).length : Nat) : Int), (!(((((m.getD n_.toNat (0, (0, (0, ByteArray.empty)))).1) : Int) == ((r182_2.getD 0 (0, (0, (0, ByteArray.empty)))).1)) && ((((((m.getD n_.toNat (0, (0, (0, ByteArray.empty)))).2).1) : Int) == (((r182_2.getD 0 (0, (0, (0, ByteArray.empty)))).2).1)) && (((((((m.getD n_.toNat (0, (0, (0, ByteArray.empty)))).2).2).1) : Int) == ((((r182_2.getD 0 (0, (0, (0, ByteArray.empty)))).2).2).1)) && (((((m.getD n_.toNat (0, (0, (0, ByteArray.empty)))).2).2).2).toList == ((((r182_2.getD 0 (0, (0, (0, ByteArray.empty)))).2).2).2).toList))))) = true] (by kernel_rfl) ⟨g182_0, g182_1, (f22_broughamlaw34_plain_ok n ((b.take (IntKind.wrap .i64 (k + 1)).toNat).drop k.toNat) r182_2 cr182_2), g182_3, b182_e0, trivial⟩ ?_
                have h := Option.some.inj h
                subst h
                have hk : o = f8_broughamlaw34_CaptureMerges_out false := hk
                subst hk
                exact At.fin hm ht ⟨[], [], [], [6], []⟩ [] (by kernel_rfl) trivial
              · refine At.step hm ht ⟨[(11, .call [] [] (f22_broughamlaw34_plain_out r182_2))], [false], [], [0, 1, 5, 7, 8, 9, 10], [0, 1]⟩ 17 ⟨[(0, .one (.c (.d (.sl (.pair (.int .i64) (.pair (.int .i64) (.pair (.int .i64) (.slice (.int .u8))))) a)))), (1, .one (.c (.d (.sl (.pair (.int .i64) (.pair (.int .i64) (.pair (.int .i64) (.slice (.int .u8))))) b)))), (5, .one (.c (.ptr 0 0))), (7, .one (.c (.own 1 (.pair (.int .i64) (.pair (.int .i64) (.pair (.int .i64) .str))) m))), (8, .one (.c (.d (.int .i64 i)))), (9, .one (.c (.d (.int .i64 k)))), (10, .one (.c (.d (.int .i64 n_))))], [(1, some ⟨84, 0⟩)], [(0, [.d (.int .i64 x_0), .d (.int .i64 x_1)])], 2⟩ [(0 : Int) ≤ n_ ∧ n_ < (((m).length : Nat) : Int), cutOk b.length (some k) (some (IntKind.wrap .i64 (k + 1))) (some (IntKind.wrap .i64 (k + 1))), FnOK Go.Proofs.Try.prog 22 (f22_broughamlaw34_plain_in ((b.take (IntKind.wrap .i64 (k + 1)).toNat).drop k.toNat)) (f22_broughamlaw34_plain_out r182_2), (0 : Int) ≤ 0 ∧ 0 < (((r182_2).length : Nat) : Int), (!(((((m.getD n_.toNat (0, (0, (0, ByteArray.empty)))).1) : Int) == ((r182_2.getD 0 (0, (0, (0, ByteArray.empty)))).1)) && ((((((m.getD n_.toNat (0, (0, (0, ByteArray.empty)))).2).1) : Int) == (((r182_2.getD 0 (0, (0, (0, ByteArray.empty)))).2).1)) && (((((((m.getD n_.toNat (0, (0, (0, ByteArray.empty)))).2).2).1) : Int) == ((((r182_2.getD 0 (0, (0, (0, ByteArray.empty)))).2).2).1)) && (((((m.getD n_.toNat (0, (0, (0, ByteArray.empty)))).2).2).2).toList == ((((r182_2.getD 0 (0, (0, (0, ByteArray.empty)))).2).2).2).toList))))) = false] (by kernel_rfl) ⟨g182_0, g182_1, (f22_broughamlaw34_plain_ok n ((b.take (IntKind.wrap .i64 (k + 1)).toNat).drop k.toNat) r182_2 cr182_2), g182_3, b182_e0, trivial⟩ ?_
                refine At.step hm ht ⟨[], [], [], [0, 1, 5, 7, 8, 9, 10], [0, 1]⟩ 7 ⟨[(0, .one (.c (.d (.sl (.pair (.int .i64) (.pair (.int .i64) (.pair (.int .i64) (.slice (.int .u8))))) a)))), (1, .one (.c (.d (.sl (.pair (.int .i64) (.pair (.int .i64) (.pair (.int .i64) (.slice (.int .u8))))) b)))), (5, .one (.c (.ptr 0 0))), (7, .one (.c (.own 1 (.pair (.int .i64) (.pair (.int .i64) (.pair (.int .i64) .str))) m))), (8, .one (.c (.d (.int .i64 i)))), (9, .one (.c (.d (.int .i64 (IntKind.wrap .i64 (k + 1)))))), (10, .one (.c (.d (.int .i64 n_))))], [(1, some ⟨84, 0⟩)], [(0, [.d (.int .i64 x_0), .d (.int .i64 x_1)])], 2⟩ [] (by kernel_rfl) trivial ?_
                refine At.step hm ht ⟨[], [], [], [0, 1, 5, 7, 8, 9, 10], [0, 1]⟩ 6 ⟨[(0, .one (.c (.d (.sl (.pair (.int .i64) (.pair (.int .i64) (.pair (.int .i64) (.slice (.int .u8))))) a)))), (1, .one (.c (.d (.sl (.pair (.int .i64) (.pair (.int .i64) (.pair (.int .i64) (.slice (.int .u8))))) b)))), (5, .one (.c (.ptr 0 0))), (7, .one (.c (.own 1 (.pair (.int .i64) (.pair (.int .i64) (.pair (.int .i64) .str))) m))), (8, .one (.c (.d (.int .i64 i)))), (9, .one (.c (.d (.int .i64 (IntKind.wrap .i64 (k + 1)))))), (10, .one (.c (.d (.int .i64 (IntKind.wrap .i64 (n_ + 1))))))], [(1, some ⟨84, 0⟩)], [(0, [.d (.int .i64 x_0), .d (.int .i64 x_1)])], 2⟩ [] (by kernel_rfl) trivial ?_
                exact ih a b m i (IntKind.wrap .i64 (k + 1)) (IntKind.wrap .i64 (n_ + 1)) x_0 x_1 w h o hk
    · refine At.step hm ht ⟨[], [false], [], [0, 1, 5, 8, 9], [0]⟩ 18 ⟨[(0, .one (.c (.d (.sl (.pair (.int .i64) (.pair (.int .i64) (.pair (.int .i64) (.slice (.int .u8))))) a)))), (1, .one (.c (.d (.sl (.pair (.int .i64) (.pair (.int .i64) (.pair (.int .i64) (.slice (.int .u8))))) b)))), (5, .one (.c (.ptr 0 0))), (8, .one (.c (.d (.int .i64 i)))), (9, .one (.c (.d (.int .i64 k))))], [], [(0, [.d (.int .i64 x_0), .d (.int .i64 x_1)])], 1⟩ [(decide ((n_ : Int) < ((m.length : Nat) : Int))) = false] (by kernel_rfl) ⟨b137_e0, trivial⟩ ?_
      have h := Option.some.inj h
      subst h
      exact hk
end Go.Proofs.YtjoibacjpapncaaF34
