/- What the functions compute, and that they do: printed by a program of this session (zgen.py), proved by Zed. -/
import Derived.Test.YtddglebabaaghaaF10x0
namespace Go.Proofs.YtddglebabaaghaaF10
open Go Zed
set_option maxRecDepth 100000
set_option linter.unusedVariables false
/-! brougham/broughamref02.Put -/
def f75_broughamref02_Put_in (n_ : Int) (bytes : Int) : Inn := ⟨[.c (.d (.sl .unit [])), .c (.d (.int .u64 n_)), .c (.d (.int .i64 bytes))], [], [], 0⟩
def f75_broughamref02_Put_out (r : List Int) : Out := ⟨.one (.c (.own 0 (.int .u8) r)), [(0, ⟨5, 0⟩)], [], 1⟩
def f75_broughamref02_Put : Nat → Int → Int → Option (List Int)
  | 0, _, _ => none
  | n + 1, n_, bytes =>
    if (decide ((bytes : Int) < 1)) = true then
      some []
    else
      if (decide ((bytes : Int) > 8)) = true then
        some []
      else
        (f75_broughamref02_Put n (IntKind.wrap .u64 (Int.tdiv n_ 256)) (IntKind.wrap .i64 (bytes - 1))).bind fun r455_0 =>
        if r455_0.length + [(IntKind.wrap .u8 (Int.tmod n_ 256))].length ≤ maxLen ∧ (r455_0.length + [(IntKind.wrap .u8 (Int.tmod n_ 256))].length) * 1 ≤ 140737488355328 then
        some (r455_0 ++ [(IntKind.wrap .u8 (Int.tmod n_ 256))])
        else none
theorem f75_broughamref02_Put_ok (n : Nat) : ∀ (n_ : Int) (bytes : Int) (r : List Int) (h : f75_broughamref02_Put n n_ bytes = some r), FnOK Go.Proofs.Try.prog 75 (f75_broughamref02_Put_in n_ bytes) (f75_broughamref02_Put_out r) := by
  induction n with
  | zero => intro n_ bytes r h; rw [f75_broughamref02_Put] at h; cases h
  | succ n ih =>
    intro n_ bytes r h
    rw [f75_broughamref02_Put] at h
    refine At.fn (r := 0) Go.Proofs.Try.func75 rfl (by kernel_rfl) rfl rfl (by kernel_rfl) ?_
    show At Go.Proofs.Try.prog Go.Proofs.Try.f75 0 0 ⟨[(0, .one (.c (.d (.sl .unit [])))), (1, .one (.c (.d (.int .u64 n_)))), (2, .one (.c (.d (.int .i64 bytes))))], [], [], 0⟩ _
    refine At.step hm ht ⟨[], [], [], [0, 1, 2], []⟩ 1 ⟨[(0, .one (.c (.d (.sl .unit [])))), (1, .one (.c (.d (.int .u64 n_)))), (2, .one (.c (.d (.int .i64 bytes))))], [], [], 0⟩ [] (by kernel_rfl) trivial ?_
    rcases iteS h with ⟨b452_2, h⟩ | ⟨b452_2, h⟩
    · refine At.step hm ht ⟨[(2, .b true)], [true], [], [0], []⟩ 2 ⟨[(0, .one (.c (.d (.sl .unit []))))], [], [], 0⟩ [(decide ((bytes : Int) < 1)) = true, true = true] (by kernel_rfl) ⟨b452_2, rfl, trivial⟩ ?_
      have h := Option.some.inj h
      subst h
      exact At.fin hm ht ⟨[], [], [.nil false 6 0 (.int .u8) (some 5)], [6], [2]⟩ [] (by kernel_rfl) trivial
    · rcases iteS h with ⟨b452_e0, h⟩ | ⟨b452_e0, h⟩
      · refine At.step hm ht ⟨[(2, .b false)], [true], [], [0], []⟩ 2 ⟨[(0, .one (.c (.d (.sl .unit []))))], [], [], 0⟩ [(decide ((bytes : Int) < 1)) = false, (decide ((bytes : Int) > 8)) = true] (by kernel_rfl) ⟨b452_2, b452_e0, trivial⟩ ?_
        have h := Option.some.inj h
        subst h
        exact At.fin hm ht ⟨[], [], [.nil false 6 0 (.int .u8) (some 5)], [6], [2]⟩ [] (by kernel_rfl) trivial
      · refine At.step hm ht ⟨[(2, .b false)], [false], [], [0, 1, 2], []⟩ 3 ⟨[(0, .one (.c (.d (.sl .unit [])))), (1, .one (.c (.d (.int .u64 n_)))), (2, .one (.c (.d (.int .i64 bytes))))], [], [], 0⟩ [(decide ((bytes : Int) < 1)) = false, (decide ((bytes : Int) > 8)) = false] (by kernel_rfl) ⟨b452_2, b452_e0, trivial⟩ ?_
        obtain ⟨r455_0, cr455_0, h⟩ := bindS h
        refine At.step hm ht ⟨[(5, .call [] [] (f75_broughamref02_Put_out r455_0))], [], [], [0, 1], [5]⟩ 4 ⟨[(0, .one (.c (.own 0 (.int .u8) r455_0))), (1, .one (.c (.d (.int .u64 n_))))], [(0, some ⟨5, 0⟩)], [], 1⟩ [(256 : Int) ≠ 0, FnOK Go.Proofs.Try.prog 75 (f75_broughamref02_Put_in (IntKind.wrap .u64 (Int.tdiv n_ 256)) (IntKind.wrap .i64 (bytes - 1))) (f75_broughamref02_Put_out r455_0)] (by kernel_rfl) ⟨(by decide), (ih (IntKind.wrap .u64 (Int.tdiv n_ 256)) (IntKind.wrap .i64 (bytes - 1)) r455_0 cr455_0), trivial⟩ ?_
        obtain ⟨g456_0, h⟩ := ifS h
        have h := Option.some.inj h
        subst h
        exact At.fin hm ht ⟨[], [], [], [6], [6]⟩ [(256 : Int) ≠ 0, r455_0.length + [(IntKind.wrap .u8 (Int.tmod n_ 256))].length ≤ maxLen ∧ (r455_0.length + [(IntKind.wrap .u8 (Int.tmod n_ 256))].length) * 1 ≤ 140737488355328] (by kernel_rfl) ⟨(by decide), g456_0, trivial⟩
/-! brougham/broughamref02.Put -/
def f75_broughamref02_Put_v2_in (b : List Int) (n_ : Int) (bytes : Int) : Inn := ⟨[.c (.own 0 (.int .u8) b), .c (.d (.int .u64 n_)), .c (.d (.int .i64 bytes))], [(0, ⟨5, 0⟩)], [], 1⟩
def f75_broughamref02_Put_v2_out (r : List Int) : Out := ⟨.one (.c (.own 1 (.int .u8) r)), [(1, ⟨5, 0⟩)], [], 2⟩
def f75_broughamref02_Put_v2 : Nat → (List Int) → Int → Int → Option (List Int)
  | 0, _, _, _ => none
  | n + 1, b, n_, bytes =>
    if (decide ((bytes : Int) < 1)) = true then
      some b
    else
      if (decide ((bytes : Int) > 8)) = true then
        some b
      else
        (f75_broughamref02_Put_v2 n b (IntKind.wrap .u64 (Int.tdiv n_ 256)) (IntKind.wrap .i64 (bytes - 1))).bind fun r468_0 =>
        if r468_0.length + [(IntKind.wrap .u8 (Int.tmod n_ 256))].length ≤ maxLen ∧ (r468_0.length + [(IntKind.wrap .u8 (Int.tmod n_ 256))].length) * 1 ≤ 140737488355328 then
        some (r468_0 ++ [(IntKind.wrap .u8 (Int.tmod n_ 256))])
        else none
theorem f75_broughamref02_Put_v2_ok (n : Nat) : ∀ (b : List Int) (n_ : Int) (bytes : Int) (r : List Int) (h : f75_broughamref02_Put_v2 n b n_ bytes = some r), FnOK Go.Proofs.Try.prog 75 (f75_broughamref02_Put_v2_in b n_ bytes) (f75_broughamref02_Put_v2_out r) := by
  induction n with
  | zero => intro b n_ bytes r h; rw [f75_broughamref02_Put_v2] at h; cases h
  | succ n ih =>
    intro b n_ bytes r h
    rw [f75_broughamref02_Put_v2] at h
    refine At.fn (r := 0) Go.Proofs.Try.func75 rfl (by kernel_rfl) rfl rfl (by kernel_rfl) ?_
    show At Go.Proofs.Try.prog Go.Proofs.Try.f75 1 0 ⟨[(0, .one (.c (.own 0 (.int .u8) b))), (1, .one (.c (.d (.int .u64 n_)))), (2, .one (.c (.d (.int .i64 bytes))))], [(0, some ⟨5, 0⟩)], [], 1⟩ _
    refine At.step hm ht ⟨[], [], [], [0, 1, 2], [0]⟩ 1 ⟨[(0, .one (.c (.own 0 (.int .u8) b))), (1, .one (.c (.d (.int .u64 n_)))), (2, .one (.c (.d (.int .i64 bytes))))], [(0, some ⟨5, 0⟩)], [], 1⟩ [] (by kernel_rfl) trivial ?_
    rcases iteS h with ⟨b465_2, h⟩ | ⟨b465_2, h⟩
    · refine At.step hm ht ⟨[(2, .b true)], [true], [], [0], [0]⟩ 2 ⟨[(0, .one (.c (.own 0 (.int .u8) b)))], [(0, some ⟨5, 0⟩)], [], 1⟩ [(decide ((bytes : Int) < 1)) = true, true = true] (by kernel_rfl) ⟨b465_2, rfl, trivial⟩ ?_
      have h := Option.some.inj h
      subst h
      exact At.fin hm ht ⟨[], [], [.mv 0 6 0], [6], [0, 3]⟩ [] (by kernel_rfl) trivial
    · rcases iteS h with ⟨b465_e0, h⟩ | ⟨b465_e0, h⟩
      · refine At.step hm ht ⟨[(2, .b false)], [true], [], [0], [0]⟩ 2 ⟨[(0, .one (.c (.own 0 (.int .u8) b)))], [(0, some ⟨5, 0⟩)], [], 1⟩ [(decide ((bytes : Int) < 1)) = false, (decide ((bytes : Int) > 8)) = true] (by kernel_rfl) ⟨b465_2, b465_e0, trivial⟩ ?_
        have h := Option.some.inj h
        subst h
        exact At.fin hm ht ⟨[], [], [.mv 0 6 0], [6], [0, 3]⟩ [] (by kernel_rfl) trivial
      · refine At.step hm ht ⟨[(2, .b false)], [false], [], [0, 1, 2], [0]⟩ 3 ⟨[(0, .one (.c (.own 0 (.int .u8) b))), (1, .one (.c (.d (.int .u64 n_)))), (2, .one (.c (.d (.int .i64 bytes))))], [(0, some ⟨5, 0⟩)], [], 1⟩ [(decide ((bytes : Int) < 1)) = false, (decide ((bytes : Int) > 8)) = false] (by kernel_rfl) ⟨b465_2, b465_e0, trivial⟩ ?_
        obtain ⟨r468_0, cr468_0, h⟩ := bindS h
        refine At.step hm ht ⟨[(5, .call [0] [] (f75_broughamref02_Put_v2_out r468_0))], [], [], [0, 1], [0, 7]⟩ 4 ⟨[(0, .one (.c (.own 1 (.int .u8) r468_0))), (1, .one (.c (.d (.int .u64 n_))))], [(1, some ⟨5, 0⟩)], [], 2⟩ [(256 : Int) ≠ 0, FnOK Go.Proofs.Try.prog 75 (f75_broughamref02_Put_v2_in b (IntKind.wrap .u64 (Int.tdiv n_ 256)) (IntKind.wrap .i64 (bytes - 1))) (f75_broughamref02_Put_v2_out r468_0)] (by kernel_rfl) ⟨(by decide), (ih b (IntKind.wrap .u64 (Int.tdiv n_ 256)) (IntKind.wrap .i64 (bytes - 1)) r468_0 cr468_0), trivial⟩ ?_
        obtain ⟨g469_0, h⟩ := ifS h
        have h := Option.some.inj h
        subst h
        exact At.fin hm ht ⟨[], [], [], [6], [0, 7]⟩ [(256 : Int) ≠ 0, r468_0.length + [(IntKind.wrap .u8 (Int.tmod n_ 256))].length ≤ maxLen ∧ (r468_0.length + [(IntKind.wrap .u8 (Int.tmod n_ 256))].length) * 1 ≤ 140737488355328] (by kernel_rfl) ⟨(by decide), g469_0, trivial⟩
/-! brougham/broughamref07.Header -/
def f45_broughamref07_Header_in (s_0 : Int) (s_1 : Int) (s_2 : Int) (s_3 : Int) (s_4 : Int) (s_5 : List (Int × List Int)) (s_6 : List Int) : Inn := ⟨[.agg [.d (.int .u16 s_0), .d (.int .u16 s_1), .d (.int .u32 s_2), .d (.int .u32 s_3), .d (.int .u8 s_4), .d (.sl (.pair (.int .u8) (.slice (.int .u8))) s_5), .d (.sl (.int .u8) s_6)]], [], [], 0⟩
def f45_broughamref07_Header_out (r : List Int) : Out := ⟨.one (.c (.own 0 (.int .u8) r)), [(0, ⟨5, 0⟩)], [], 1⟩
def f45_broughamref07_Header (n : Nat) (s_0 : Int) (s_1 : Int) (s_2 : Int) (s_3 : Int) (s_4 : Int) (s_5 : List (Int × List Int)) (s_6 : List Int) : Option (List Int) :=
  (f75_broughamref02_Put n (IntKind.wrap .u64 s_0) 2).bind fun r438_0 =>
  (f75_broughamref02_Put_v2 n r438_0 (IntKind.wrap .u64 s_1) 2).bind fun r457_0 =>
  (f75_broughamref02_Put_v2 n r457_0 (IntKind.wrap .u64 s_2) 4).bind fun r470_0 =>
  (f75_broughamref02_Put_v2 n r470_0 (IntKind.wrap .u64 s_3) 4).bind fun r471_0 =>
  if r471_0.length + [s_4].length ≤ maxLen ∧ (r471_0.length + [s_4].length) * 1 ≤ 140737488355328 then
  some (r471_0 ++ [s_4])
  else none
theorem f45_broughamref07_Header_ok (n : Nat) (s_0 : Int) (s_1 : Int) (s_2 : Int) (s_3 : Int) (s_4 : Int) (s_5 : List (Int × List Int)) (s_6 : List Int) (r : List Int) (h : f45_broughamref07_Header n s_0 s_1 s_2 s_3 s_4 s_5 s_6 = some r) : FnOK Go.Proofs.Try.prog 45 (f45_broughamref07_Header_in s_0 s_1 s_2 s_3 s_4 s_5 s_6) (f45_broughamref07_Header_out r) := by
  unfold f45_broughamref07_Header at h
  refine At.fn (r := 0) Go.Proofs.Try.func45 rfl (by kernel_rfl) rfl rfl (by kernel_rfl) ?_
  show At Go.Proofs.Try.prog Go.Proofs.Try.f45 0 0 ⟨[(0, .one (.agg [.d (.int .u16 s_0), .d (.int .u16 s_1), .d (.int .u32 s_2), .d (.int .u32 s_3), .d (.int .u8 s_4), .d (.sl (.pair (.int .u8) (.slice (.int .u8))) s_5), .d (.sl (.int .u8) s_6)]))], [], [], 0⟩ _
  refine At.step hm ht ⟨[], [], [], [1], [0]⟩ 1 ⟨[(1, .one (.c (.ptr 0 0)))], [], [(0, [.d (.int .u16 s_0), .d (.int .u16 s_1), .d (.int .u32 s_2), .d (.int .u32 s_3), .d (.int .u8 s_4), .d (.sl (.pair (.int .u8) (.slice (.int .u8))) s_5), .d (.sl (.int .u8) s_6)])], 1⟩ [] (by kernel_rfl) trivial ?_
  obtain ⟨r438_0, cr438_0, h⟩ := bindS h
  refine At.step hm ht ⟨[(3, .call [] [] (f75_broughamref02_Put_out r438_0))], [], [], [1, 3], [0, 4]⟩ 2 ⟨[(1, .one (.c (.ptr 0 0))), (3, .one (.c (.own 1 (.int .u8) r438_0)))], [(1, some ⟨5, 0⟩)], [(0, [.d (.int .u16 s_0), .d (.int .u16 s_1), .d (.int .u32 s_2), .d (.int .u32 s_3), .d (.int .u8 s_4), .d (.sl (.pair (.int .u8) (.slice (.int .u8))) s_5), .d (.sl (.int .u8) s_6)])], 2⟩ [FnOK Go.Proofs.Try.prog 75 (f75_broughamref02_Put_in (IntKind.wrap .u64 s_0) 2) (f75_broughamref02_Put_out r438_0)] (by kernel_rfl) ⟨(f75_broughamref02_Put_ok n (IntKind.wrap .u64 s_0) 2 r438_0 cr438_0), trivial⟩ ?_
  obtain ⟨r457_0, cr457_0, h⟩ := bindS h
  refine At.step hm ht ⟨[(4, .call [1] [] (f75_broughamref02_Put_v2_out r457_0))], [], [], [1, 3], [0, 7]⟩ 3 ⟨[(1, .one (.c (.ptr 0 0))), (3, .one (.c (.own 1 (.int .u8) r457_0)))], [(1, some ⟨5, 0⟩)], [(0, [.d (.int .u16 s_0), .d (.int .u16 s_1), .d (.int .u32 s_2), .d (.int .u32 s_3), .d (.int .u8 s_4), .d (.sl (.pair (.int .u8) (.slice (.int .u8))) s_5), .d (.sl (.int .u8) s_6)])], 2⟩ [FnOK Go.Proofs.Try.prog 75 (f75_broughamref02_Put_v2_in r438_0 (IntKind.wrap .u64 s_1) 2) (f75_broughamref02_Put_v2_out r457_0)] (by kernel_rfl) ⟨(f75_broughamref02_Put_v2_ok n r438_0 (IntKind.wrap .u64 s_1) 2 r457_0 cr457_0), trivial⟩ ?_
  obtain ⟨r470_0, cr470_0, h⟩ := bindS h
  refine At.step hm ht ⟨[(4, .call [1] [] (f75_broughamref02_Put_v2_out r470_0))], [], [], [1, 3], [0, 7]⟩ 4 ⟨[(1, .one (.c (.ptr 0 0))), (3, .one (.c (.own 1 (.int .u8) r470_0)))], [(1, some ⟨5, 0⟩)], [(0, [.d (.int .u16 s_0), .d (.int .u16 s_1), .d (.int .u32 s_2), .d (.int .u32 s_3), .d (.int .u8 s_4), .d (.sl (.pair (.int .u8) (.slice (.int .u8))) s_5), .d (.sl (.int .u8) s_6)])], 2⟩ [FnOK Go.Proofs.Try.prog 75 (f75_broughamref02_Put_v2_in r457_0 (IntKind.wrap .u64 s_2) 4) (f75_broughamref02_Put_v2_out r470_0)] (by kernel_rfl) ⟨(f75_broughamref02_Put_v2_ok n r457_0 (IntKind.wrap .u64 s_2) 4 r470_0 cr470_0), trivial⟩ ?_
  obtain ⟨r471_0, cr471_0, h⟩ := bindS h
  refine At.step hm ht ⟨[(4, .call [1] [] (f75_broughamref02_Put_v2_out r471_0))], [], [], [1, 3], [0, 7]⟩ 5 ⟨[(1, .one (.c (.ptr 0 0))), (3, .one (.c (.own 1 (.int .u8) r471_0)))], [(1, some ⟨5, 0⟩)], [(0, [.d (.int .u16 s_0), .d (.int .u16 s_1), .d (.int .u32 s_2), .d (.int .u32 s_3), .d (.int .u8 s_4), .d (.sl (.pair (.int .u8) (.slice (.int .u8))) s_5), .d (.sl (.int .u8) s_6)])], 2⟩ [FnOK Go.Proofs.Try.prog 75 (f75_broughamref02_Put_v2_in r470_0 (IntKind.wrap .u64 s_3) 4) (f75_broughamref02_Put_v2_out r471_0)] (by kernel_rfl) ⟨(f75_broughamref02_Put_v2_ok n r470_0 (IntKind.wrap .u64 s_3) 4 r471_0 cr471_0), trivial⟩ ?_
  obtain ⟨g472_0, h⟩ := ifS h
  have h := Option.some.inj h
  subst h
  exact At.fin hm ht ⟨[], [], [], [2], [6]⟩ [r471_0.length + [s_4].length ≤ maxLen ∧ (r471_0.length + [s_4].length) * 1 ≤ 140737488355328] (by kernel_rfl) ⟨g472_0, trivial⟩
/-! brougham/broughamref10.Cover -/
def f64_broughamref10_Cover_in (s_0 : Int) (s_1 : Int) (s_2 : Int) (s_3 : Int) (s_4 : Int) (s_5 : List (Int × List Int)) (s_6 : List Int) (kind : Int) (body : List Int) : Inn := ⟨[.agg [.d (.int .u16 s_0), .d (.int .u16 s_1), .d (.int .u32 s_2), .d (.int .u32 s_3), .d (.int .u8 s_4), .d (.sl (.pair (.int .u8) (.slice (.int .u8))) s_5), .d (.sl (.int .u8) s_6)], .c (.d (.int .u8 kind)), .c (.d (.sl (.int .u8) body))], [], [], 0⟩
def f64_broughamref10_Cover_out (r : List Int) : Out := ⟨.one (.c (.own 0 (.int .u8) r)), [(0, ⟨5, 0⟩)], [], 1⟩
def f64_broughamref10_Cover (n : Nat) (s_0 : Int) (s_1 : Int) (s_2 : Int) (s_3 : Int) (s_4 : Int) (s_5 : List (Int × List Int)) (s_6 : List Int) (kind : Int) (body : List Int) : Option (List Int) :=
  (f45_broughamref07_Header n s_0 s_1 s_2 s_3 s_4 s_5 s_6).bind fun r436_0 =>
  if r436_0.length + [kind, (IntKind.wrap .u8 (Int.tmod ((body.length : Nat) : Int) 256))].length ≤ maxLen ∧ (r436_0.length + [kind, (IntKind.wrap .u8 (Int.tmod ((body.length : Nat) : Int) 256))].length) * 1 ≤ 140737488355328 then
  if (decide ((((body.length : Nat) : Int) : Int) > 8)) = true then
    if cutOk body.length none (some (IntKind.wrap .i64 (((body.length : Nat) : Int) - 8))) none then
    if (r436_0 ++ [kind, (IntKind.wrap .u8 (Int.tmod ((body.length : Nat) : Int) 256))]).length + (body.take (IntKind.wrap .i64 (((body.length : Nat) : Int) - 8)).toNat).length ≤ maxLen ∧ ((r436_0 ++ [kind, (IntKind.wrap .u8 (Int.tmod ((body.length : Nat) : Int) 256))]).length + (body.take (IntKind.wrap .i64 (((body.length : Nat) : Int) - 8)).toNat).length) * 1 ≤ 140737488355328 then
    (f75_broughamref02_Put_v2 n ((r436_0 ++ [kind, (IntKind.wrap .u8 (Int.tmod ((body.length : Nat) : Int) 256))]) ++ (body.take (IntKind.wrap .i64 (((body.length : Nat) : Int) - 8)).toNat)) (IntKind.wrap .u64 ((s_6.length : Nat) : Int)) 2).bind fun r475_0 =>
    if r475_0.length + s_6.length ≤ maxLen ∧ (r475_0.length + s_6.length) * 1 ≤ 140737488355328 then
    some (r475_0 ++ s_6)
    else none
    else none
    else none
  else
    (f75_broughamref02_Put_v2 n (r436_0 ++ [kind, (IntKind.wrap .u8 (Int.tmod ((body.length : Nat) : Int) 256))]) (IntKind.wrap .u64 ((s_6.length : Nat) : Int)) 2).bind fun r477_0 =>
    if r477_0.length + s_6.length ≤ maxLen ∧ (r477_0.length + s_6.length) * 1 ≤ 140737488355328 then
    some (r477_0 ++ s_6)
    else none
  else none
theorem f64_broughamref10_Cover_ok (n : Nat) (s_0 : Int) (s_1 : Int) (s_2 : Int) (s_3 : Int) (s_4 : Int) (s_5 : List (Int × List Int)) (s_6 : List Int) (kind : Int) (body : List Int) (r : List Int) (h : f64_broughamref10_Cover n s_0 s_1 s_2 s_3 s_4 s_5 s_6 kind body = some r) : FnOK Go.Proofs.Try.prog 64 (f64_broughamref10_Cover_in s_0 s_1 s_2 s_3 s_4 s_5 s_6 kind body) (f64_broughamref10_Cover_out r) := by
  unfold f64_broughamref10_Cover at h
  refine At.fn (r := 0) Go.Proofs.Try.func64 rfl (by kernel_rfl) rfl rfl (by kernel_rfl) ?_
  show At Go.Proofs.Try.prog Go.Proofs.Try.f64 0 0 ⟨[(0, .one (.agg [.d (.int .u16 s_0), .d (.int .u16 s_1), .d (.int .u32 s_2), .d (.int .u32 s_3), .d (.int .u8 s_4), .d (.sl (.pair (.int .u8) (.slice (.int .u8))) s_5), .d (.sl (.int .u8) s_6)])), (1, .one (.c (.d (.int .u8 kind)))), (2, .one (.c (.d (.sl (.int .u8) body))))], [], [], 0⟩ _
  refine At.step hm ht ⟨[], [], [], [1, 2, 3], [0]⟩ 1 ⟨[(1, .one (.c (.d (.int .u8 kind)))), (2, .one (.c (.d (.sl (.int .u8) body)))), (3, .one (.c (.ptr 0 0)))], [], [(0, [.d (.int .u16 s_0), .d (.int .u16 s_1), .d (.int .u32 s_2), .d (.int .u32 s_3), .d (.int .u8 s_4), .d (.sl (.pair (.int .u8) (.slice (.int .u8))) s_5), .d (.sl (.int .u8) s_6)])], 1⟩ [] (by kernel_rfl) trivial ?_
  obtain ⟨r436_0, cr436_0, h⟩ := bindS h
  obtain ⟨g436_1, h⟩ := ifS h
  refine At.step hm ht ⟨[(1, .call [] [] (f45_broughamref07_Header_out r436_0))], [], [], [2, 3, 7], [0, 9]⟩ 2 ⟨[(2, .one (.c (.d (.sl (.int .u8) body)))), (3, .one (.c (.ptr 0 0))), (7, .one (.c (.own 1 (.int .u8) (r436_0 ++ [kind, (IntKind.wrap .u8 (Int.tmod ((body.length : Nat) : Int) 256))]))))], [(1, some ⟨5, 0⟩)], [(0, [.d (.int .u16 s_0), .d (.int .u16 s_1), .d (.int .u32 s_2), .d (.int .u32 s_3), .d (.int .u8 s_4), .d (.sl (.pair (.int .u8) (.slice (.int .u8))) s_5), .d (.sl (.int .u8) s_6)])], 2⟩ [FnOK Go.Proofs.Try.prog 45 (f45_broughamref07_Header_in s_0 s_1 s_2 s_3 s_4 s_5 s_6) (f45_broughamref07_Header_out r436_0), (256 : Int) ≠ 0, r436_0.length + [kind, (IntKind.wrap .u8 (Int.tmod ((body.length : Nat) : Int) 256))].length ≤ maxLen ∧ (r436_0.length + [kind, (IntKind.wrap .u8 (Int.tmod ((body.length : Nat) : Int) 256))].length) * 1 ≤ 140737488355328] (by kernel_rfl) ⟨(f45_broughamref07_Header_ok n s_0 s_1 s_2 s_3 s_4 s_5 s_6 r436_0 cr436_0), (by decide), g436_1, trivial⟩ ?_
  rcases iteS h with ⟨b473_e0, h⟩ | ⟨b473_e0, h⟩
  · refine At.step hm ht ⟨[], [true], [], [2, 3, 7], [0, 1]⟩ 3 ⟨[(2, .one (.c (.d (.sl (.int .u8) body)))), (3, .one (.c (.ptr 0 0))), (7, .one (.c (.own 1 (.int .u8) (r436_0 ++ [kind, (IntKind.wrap .u8 (Int.tmod ((body.length : Nat) : Int) 256))]))))], [(1, some ⟨5, 0⟩)], [(0, [.d (.int .u16 s_0), .d (.int .u16 s_1), .d (.int .u32 s_2), .d (.int .u32 s_3), .d (.int .u8 s_4), .d (.sl (.pair (.int .u8) (.slice (.int .u8))) s_5), .d (.sl (.int .u8) s_6)])], 2⟩ [(decide ((((body.length : Nat) : Int) : Int) > 8)) = true] (by kernel_rfl) ⟨b473_e0, trivial⟩ ?_
    obtain ⟨g474_0, h⟩ := ifS h
    obtain ⟨g474_1, h⟩ := ifS h
    refine At.step hm ht ⟨[], [], [], [3, 7], [0, 8]⟩ 4 ⟨[(3, .one (.c (.ptr 0 0))), (7, .one (.c (.own 1 (.int .u8) ((r436_0 ++ [kind, (IntKind.wrap .u8 (Int.tmod ((body.length : Nat) : Int) 256))]) ++ (body.take (IntKind.wrap .i64 (((body.length : Nat) : Int) - 8)).toNat)))))], [(1, some ⟨5, 0⟩)], [(0, [.d (.int .u16 s_0), .d (.int .u16 s_1), .d (.int .u32 s_2), .d (.int .u32 s_3), .d (.int .u8 s_4), .d (.sl (.pair (.int .u8) (.slice (.int .u8))) s_5), .d (.sl (.int .u8) s_6)])], 2⟩ [cutOk body.length none (some (IntKind.wrap .i64 (((body.length : Nat) : Int) - 8))) none, (r436_0 ++ [kind, (IntKind.wrap .u8 (Int.tmod ((body.length : Nat) : Int) 256))]).length + (body.take (IntKind.wrap .i64 (((body.length : Nat) : Int) - 8)).toNat).length ≤ maxLen ∧ ((r436_0 ++ [kind, (IntKind.wrap .u8 (Int.tmod ((body.length : Nat) : Int) 256))]).length + (body.take (IntKind.wrap .i64 (((body.length : Nat) : Int) - 8)).toNat).length) * 1 ≤ 140737488355328] (by kernel_rfl) ⟨g474_0, g474_1, trivial⟩ ?_
    obtain ⟨r475_0, cr475_0, h⟩ := bindS h
    refine At.step hm ht ⟨[(5, .call [1] [] (f75_broughamref02_Put_v2_out r475_0))], [], [], [3, 7], [0, 8]⟩ 5 ⟨[(3, .one (.c (.ptr 0 0))), (7, .one (.c (.own 1 (.int .u8) r475_0)))], [(1, some ⟨5, 0⟩)], [(0, [.d (.int .u16 s_0), .d (.int .u16 s_1), .d (.int .u32 s_2), .d (.int .u32 s_3), .d (.int .u8 s_4), .d (.sl (.pair (.int .u8) (.slice (.int .u8))) s_5), .d (.sl (.int .u8) s_6)])], 2⟩ [FnOK Go.Proofs.Try.prog 75 (f75_broughamref02_Put_v2_in ((r436_0 ++ [kind, (IntKind.wrap .u8 (Int.tmod ((body.length : Nat) : Int) 256))]) ++ (body.take (IntKind.wrap .i64 (((body.length : Nat) : Int) - 8)).toNat)) (IntKind.wrap .u64 ((s_6.length : Nat) : Int)) 2) (f75_broughamref02_Put_v2_out r475_0)] (by kernel_rfl) ⟨(f75_broughamref02_Put_v2_ok n ((r436_0 ++ [kind, (IntKind.wrap .u8 (Int.tmod ((body.length : Nat) : Int) 256))]) ++ (body.take (IntKind.wrap .i64 (((body.length : Nat) : Int) - 8)).toNat)) (IntKind.wrap .u64 ((s_6.length : Nat) : Int)) 2 r475_0 cr475_0), trivial⟩ ?_
    obtain ⟨g476_0, h⟩ := ifS h
    have h := Option.some.inj h
    subst h
    exact At.fin hm ht ⟨[], [], [], [6], [5]⟩ [r475_0.length + s_6.length ≤ maxLen ∧ (r475_0.length + s_6.length) * 1 ≤ 140737488355328] (by kernel_rfl) ⟨g476_0, trivial⟩
  · refine At.step hm ht ⟨[], [false], [], [3, 7], [0, 1]⟩ 4 ⟨[(3, .one (.c (.ptr 0 0))), (7, .one (.c (.own 1 (.int .u8) (r436_0 ++ [kind, (IntKind.wrap .u8 (Int.tmod ((body.length : Nat) : Int) 256))]))))], [(1, some ⟨5, 0⟩)], [(0, [.d (.int .u16 s_0), .d (.int .u16 s_1), .d (.int .u32 s_2), .d (.int .u32 s_3), .d (.int .u8 s_4), .d (.sl (.pair (.int .u8) (.slice (.int .u8))) s_5), .d (.sl (.int .u8) s_6)])], 2⟩ [(decide ((((body.length : Nat) : Int) : Int) > 8)) = false] (by kernel_rfl) ⟨b473_e0, trivial⟩ ?_
    obtain ⟨r477_0, cr477_0, h⟩ := bindS h
    refine At.step hm ht ⟨[(5, .call [1] [] (f75_broughamref02_Put_v2_out r477_0))], [], [], [3, 7], [0, 8]⟩ 5 ⟨[(3, .one (.c (.ptr 0 0))), (7, .one (.c (.own 1 (.int .u8) r477_0)))], [(1, some ⟨5, 0⟩)], [(0, [.d (.int .u16 s_0), .d (.int .u16 s_1), .d (.int .u32 s_2), .d (.int .u32 s_3), .d (.int .u8 s_4), .d (.sl (.pair (.int .u8) (.slice (.int .u8))) s_5), .d (.sl (.int .u8) s_6)])], 2⟩ [FnOK Go.Proofs.Try.prog 75 (f75_broughamref02_Put_v2_in (r436_0 ++ [kind, (IntKind.wrap .u8 (Int.tmod ((body.length : Nat) : Int) 256))]) (IntKind.wrap .u64 ((s_6.length : Nat) : Int)) 2) (f75_broughamref02_Put_v2_out r477_0)] (by kernel_rfl) ⟨(f75_broughamref02_Put_v2_ok n (r436_0 ++ [kind, (IntKind.wrap .u8 (Int.tmod ((body.length : Nat) : Int) 256))]) (IntKind.wrap .u64 ((s_6.length : Nat) : Int)) 2 r477_0 cr477_0), trivial⟩ ?_
    obtain ⟨g478_0, h⟩ := ifS h
    have h := Option.some.inj h
    subst h
    exact At.fin hm ht ⟨[], [], [], [6], [5]⟩ [r477_0.length + s_6.length ≤ maxLen ∧ (r477_0.length + s_6.length) * 1 ≤ 140737488355328] (by kernel_rfl) ⟨g478_0, trivial⟩
/-! brougham/broughamref03.left -/
def f96_broughamref03_left_in (x : Int) (by_ : Int) : Inn := ⟨[.c (.d (.int .u64 x)), .c (.d (.int .i64 by_))], [], [], 0⟩
def f96_broughamref03_left_out (r : Int) : Out := ⟨.one (.c (.d (.int .u64 r))), [], [], 0⟩
def f96_broughamref03_left (x : Int) (by_ : Int) : Option (Int) :=
  if (0 : Int) ≤ (IntKind.wrap .u64 by_) then
  if (0 : Int) ≤ (IntKind.wrap .u64 (IntKind.wrap .i64 (64 - by_))) then
  some (bits .or .u64 (IntKind.wrap .u64 (x * 2 ^ (min (IntKind.wrap .u64 by_).toNat (IntKind.bits .u64)))) (Int.fdiv x (2 ^ (min (IntKind.wrap .u64 (IntKind.wrap .i64 (64 - by_))).toNat (IntKind.bits .u64)))))
  else none
  else none
theorem f96_broughamref03_left_ok (x : Int) (by_ : Int) (r : Int) (h : f96_broughamref03_left x by_ = some r) : FnOK Go.Proofs.Try.prog 96 (f96_broughamref03_left_in x by_) (f96_broughamref03_left_out r) := by
  unfold f96_broughamref03_left at h
  refine At.fn (r := 0) Go.Proofs.Try.func96 rfl (by kernel_rfl) rfl rfl (by kernel_rfl) ?_
  show At Go.Proofs.Try.prog Go.Proofs.Try.f96 0 0 ⟨[(0, .one (.c (.d (.int .u64 x)))), (1, .one (.c (.d (.int .i64 by_))))], [], [], 0⟩ _
  refine At.step hm ht ⟨[], [], [], [0, 1], []⟩ 1 ⟨[(0, .one (.c (.d (.int .u64 x)))), (1, .one (.c (.d (.int .i64 by_))))], [], [], 0⟩ [] (by kernel_rfl) trivial ?_
  obtain ⟨g498_0, h⟩ := ifS h
  obtain ⟨g498_1, h⟩ := ifS h
  have h := Option.some.inj h
  subst h
  exact At.fin hm ht ⟨[], [], [], [4], []⟩ [(0 : Int) ≤ (IntKind.wrap .u64 by_), (0 : Int) ≤ (IntKind.wrap .u64 (IntKind.wrap .i64 (64 - by_)))] (by kernel_rfl) ⟨g498_0, g498_1, trivial⟩
/-! brougham/broughamref03.round -/
def f93_broughamref03_round_in (v__0 : Int) (v__1 : Int) (v__2 : Int) (v__3 : Int) : Inn := ⟨[.agg [.d (.int .u64 v__0), .d (.int .u64 v__1), .d (.int .u64 v__2), .d (.int .u64 v__3)]], [], [], 0⟩
def f93_broughamref03_round_out (r : Int × Int × Int × Int) : Out := ⟨.one (.agg [.d (.int .u64 r.1), .d (.int .u64 r.2.1), .d (.int .u64 r.2.2.1), .d (.int .u64 r.2.2.2)]), [], [(0, [.d (.int .u64 r.1), .d (.int .u64 r.2.1), .d (.int .u64 r.2.2.1), .d (.int .u64 r.2.2.2)])], 1⟩
def f93_broughamref03_round (v__0 : Int) (v__1 : Int) (v__2 : Int) (v__3 : Int) : Option (Int × Int × Int × Int) :=
  (f96_broughamref03_left v__1 13).bind fun r496_0 =>
  (f96_broughamref03_left (IntKind.wrap .u64 (v__0 + v__1)) 32).bind fun r499_0 =>
  (f96_broughamref03_left v__3 16).bind fun r501_0 =>
  (f96_broughamref03_left (bits .xor .u64 r501_0 (IntKind.wrap .u64 (v__2 + v__3))) 21).bind fun r503_0 =>
  (f96_broughamref03_left (bits .xor .u64 r496_0 (IntKind.wrap .u64 (v__0 + v__1))) 17).bind fun r505_0 =>
  (f96_broughamref03_left (IntKind.wrap .u64 ((IntKind.wrap .u64 (v__2 + v__3)) + (bits .xor .u64 r496_0 (IntKind.wrap .u64 (v__0 + v__1))))) 32).bind fun r506_0 =>
  some ((IntKind.wrap .u64 (r499_0 + (bits .xor .u64 r501_0 (IntKind.wrap .u64 (v__2 + v__3))))), (bits .xor .u64 r505_0 (IntKind.wrap .u64 ((IntKind.wrap .u64 (v__2 + v__3)) + (bits .xor .u64 r496_0 (IntKind.wrap .u64 (v__0 + v__1)))))), r506_0, (bits .xor .u64 r503_0 (IntKind.wrap .u64 (r499_0 + (bits .xor .u64 r501_0 (IntKind.wrap .u64 (v__2 + v__3)))))))
theorem f93_broughamref03_round_ok (v__0 : Int) (v__1 : Int) (v__2 : Int) (v__3 : Int) (r : Int × Int × Int × Int) (h : f93_broughamref03_round v__0 v__1 v__2 v__3 = some r) : FnOK Go.Proofs.Try.prog 93 (f93_broughamref03_round_in v__0 v__1 v__2 v__3) (f93_broughamref03_round_out r) := by
  unfold f93_broughamref03_round at h
  refine At.fn (r := 0) Go.Proofs.Try.func93 rfl (by kernel_rfl) rfl rfl (by kernel_rfl) ?_
  show At Go.Proofs.Try.prog Go.Proofs.Try.f93 0 0 ⟨[(0, .one (.agg [.d (.int .u64 v__0), .d (.int .u64 v__1), .d (.int .u64 v__2), .d (.int .u64 v__3)]))], [], [], 0⟩ _
  refine At.step hm ht ⟨[], [], [], [1, 2], [0, 1]⟩ 1 ⟨[(1, .one (.c (.ptr 0 0))), (2, .one (.c (.ptr 1 0)))], [], [(0, [.d (.int .u64 v__0), .d (.int .u64 v__1), .d (.int .u64 v__2), .d (.int .u64 v__3)]), (1, [.d (.int .u64 0), .d (.int .u64 0), .d (.int .u64 0), .d (.int .u64 0)])], 2⟩ [] (by kernel_rfl) trivial ?_
  refine At.step hm ht ⟨[], [], [], [1, 2], [0, 1]⟩ 2 ⟨[(1, .one (.c (.ptr 0 0))), (2, .one (.c (.ptr 1 0)))], [], [(0, [.d (.int .u64 (IntKind.wrap .u64 (v__0 + v__1))), .d (.int .u64 v__1), .d (.int .u64 v__2), .d (.int .u64 v__3)]), (1, [.d (.int .u64 0), .d (.int .u64 0), .d (.int .u64 0), .d (.int .u64 0)])], 2⟩ [0 + 1 ≤ 4] (by kernel_rfl) ⟨(by decide), trivial⟩ ?_
  obtain ⟨r496_0, cr496_0, h⟩ := bindS h
  refine At.step hm ht ⟨[(2, .call [] [] (f96_broughamref03_left_out r496_0))], [], [], [1, 2], [0, 1]⟩ 3 ⟨[(1, .one (.c (.ptr 0 0))), (2, .one (.c (.ptr 1 0)))], [], [(0, [.d (.int .u64 (IntKind.wrap .u64 (v__0 + v__1))), .d (.int .u64 (bits .xor .u64 r496_0 (IntKind.wrap .u64 (v__0 + v__1)))), .d (.int .u64 v__2), .d (.int .u64 v__3)]), (1, [.d (.int .u64 0), .d (.int .u64 0), .d (.int .u64 0), .d (.int .u64 0)])], 2⟩ [FnOK Go.Proofs.Try.prog 96 (f96_broughamref03_left_in v__1 13) (f96_broughamref03_left_out r496_0), 1 + 1 ≤ 4] (by kernel_rfl) ⟨(f96_broughamref03_left_ok v__1 13 r496_0 cr496_0), (by decide), trivial⟩ ?_
  obtain ⟨r499_0, cr499_0, h⟩ := bindS h
  refine At.step hm ht ⟨[(2, .call [] [] (f96_broughamref03_left_out r499_0))], [], [], [1, 2], [0, 1]⟩ 4 ⟨[(1, .one (.c (.ptr 0 0))), (2, .one (.c (.ptr 1 0)))], [], [(0, [.d (.int .u64 r499_0), .d (.int .u64 (bits .xor .u64 r496_0 (IntKind.wrap .u64 (v__0 + v__1)))), .d (.int .u64 v__2), .d (.int .u64 v__3)]), (1, [.d (.int .u64 0), .d (.int .u64 0), .d (.int .u64 0), .d (.int .u64 0)])], 2⟩ [FnOK Go.Proofs.Try.prog 96 (f96_broughamref03_left_in (IntKind.wrap .u64 (v__0 + v__1)) 32) (f96_broughamref03_left_out r499_0), 0 + 1 ≤ 4] (by kernel_rfl) ⟨(f96_broughamref03_left_ok (IntKind.wrap .u64 (v__0 + v__1)) 32 r499_0 cr499_0), (by decide), trivial⟩ ?_
  refine At.step hm ht ⟨[], [], [], [1, 2], [0, 1]⟩ 5 ⟨[(1, .one (.c (.ptr 0 0))), (2, .one (.c (.ptr 1 0)))], [], [(0, [.d (.int .u64 r499_0), .d (.int .u64 (bits .xor .u64 r496_0 (IntKind.wrap .u64 (v__0 + v__1)))), .d (.int .u64 (IntKind.wrap .u64 (v__2 + v__3))), .d (.int .u64 v__3)]), (1, [.d (.int .u64 0), .d (.int .u64 0), .d (.int .u64 0), .d (.int .u64 0)])], 2⟩ [2 + 1 ≤ 4] (by kernel_rfl) ⟨(by decide), trivial⟩ ?_
  obtain ⟨r501_0, cr501_0, h⟩ := bindS h
  refine At.step hm ht ⟨[(2, .call [] [] (f96_broughamref03_left_out r501_0))], [], [], [1, 2], [0, 1]⟩ 6 ⟨[(1, .one (.c (.ptr 0 0))), (2, .one (.c (.ptr 1 0)))], [], [(0, [.d (.int .u64 r499_0), .d (.int .u64 (bits .xor .u64 r496_0 (IntKind.wrap .u64 (v__0 + v__1)))), .d (.int .u64 (IntKind.wrap .u64 (v__2 + v__3))), .d (.int .u64 (bits .xor .u64 r501_0 (IntKind.wrap .u64 (v__2 + v__3))))]), (1, [.d (.int .u64 0), .d (.int .u64 0), .d (.int .u64 0), .d (.int .u64 0)])], 2⟩ [FnOK Go.Proofs.Try.prog 96 (f96_broughamref03_left_in v__3 16) (f96_broughamref03_left_out r501_0), 3 + 1 ≤ 4] (by kernel_rfl) ⟨(f96_broughamref03_left_ok v__3 16 r501_0 cr501_0), (by decide), trivial⟩ ?_
  refine At.step hm ht ⟨[], [], [], [1, 2], [0, 1]⟩ 7 ⟨[(1, .one (.c (.ptr 0 0))), (2, .one (.c (.ptr 1 0)))], [], [(0, [.d (.int .u64 (IntKind.wrap .u64 (r499_0 + (bits .xor .u64 r501_0 (IntKind.wrap .u64 (v__2 + v__3)))))), .d (.int .u64 (bits .xor .u64 r496_0 (IntKind.wrap .u64 (v__0 + v__1)))), .d (.int .u64 (IntKind.wrap .u64 (v__2 + v__3))), .d (.int .u64 (bits .xor .u64 r501_0 (IntKind.wrap .u64 (v__2 + v__3))))]), (1, [.d (.int .u64 0), .d (.int .u64 0), .d (.int .u64 0), .d (.int .u64 0)])], 2⟩ [0 + 1 ≤ 4] (by kernel_rfl) ⟨(by decide), trivial⟩ ?_
  obtain ⟨r503_0, cr503_0, h⟩ := bindS h
  refine At.step hm ht ⟨[(2, .call [] [] (f96_broughamref03_left_out r503_0))], [], [], [1, 2], [0, 1]⟩ 8 ⟨[(1, .one (.c (.ptr 0 0))), (2, .one (.c (.ptr 1 0)))], [], [(0, [.d (.int .u64 (IntKind.wrap .u64 (r499_0 + (bits .xor .u64 r501_0 (IntKind.wrap .u64 (v__2 + v__3)))))), .d (.int .u64 (bits .xor .u64 r496_0 (IntKind.wrap .u64 (v__0 + v__1)))), .d (.int .u64 (IntKind.wrap .u64 (v__2 + v__3))), .d (.int .u64 (bits .xor .u64 r503_0 (IntKind.wrap .u64 (r499_0 + (bits .xor .u64 r501_0 (IntKind.wrap .u64 (v__2 + v__3)))))))]), (1, [.d (.int .u64 0), .d (.int .u64 0), .d (.int .u64 0), .d (.int .u64 0)])], 2⟩ [FnOK Go.Proofs.Try.prog 96 (f96_broughamref03_left_in (bits .xor .u64 r501_0 (IntKind.wrap .u64 (v__2 + v__3))) 21) (f96_broughamref03_left_out r503_0), 3 + 1 ≤ 4] (by kernel_rfl) ⟨(f96_broughamref03_left_ok (bits .xor .u64 r501_0 (IntKind.wrap .u64 (v__2 + v__3))) 21 r503_0 cr503_0), (by decide), trivial⟩ ?_
  refine At.step hm ht ⟨[], [], [], [1, 2], [0, 1]⟩ 9 ⟨[(1, .one (.c (.ptr 0 0))), (2, .one (.c (.ptr 1 0)))], [], [(0, [.d (.int .u64 (IntKind.wrap .u64 (r499_0 + (bits .xor .u64 r501_0 (IntKind.wrap .u64 (v__2 + v__3)))))), .d (.int .u64 (bits .xor .u64 r496_0 (IntKind.wrap .u64 (v__0 + v__1)))), .d (.int .u64 (IntKind.wrap .u64 ((IntKind.wrap .u64 (v__2 + v__3)) + (bits .xor .u64 r496_0 (IntKind.wrap .u64 (v__0 + v__1)))))), .d (.int .u64 (bits .xor .u64 r503_0 (IntKind.wrap .u64 (r499_0 + (bits .xor .u64 r501_0 (IntKind.wrap .u64 (v__2 + v__3)))))))]), (1, [.d (.int .u64 0), .d (.int .u64 0), .d (.int .u64 0), .d (.int .u64 0)])], 2⟩ [2 + 1 ≤ 4] (by kernel_rfl) ⟨(by decide), trivial⟩ ?_
  obtain ⟨r505_0, cr505_0, h⟩ := bindS h
  refine At.step hm ht ⟨[(2, .call [] [] (f96_broughamref03_left_out r505_0))], [], [], [1, 2], [0, 1]⟩ 10 ⟨[(1, .one (.c (.ptr 0 0))), (2, .one (.c (.ptr 1 0)))], [], [(0, [.d (.int .u64 (IntKind.wrap .u64 (r499_0 + (bits .xor .u64 r501_0 (IntKind.wrap .u64 (v__2 + v__3)))))), .d (.int .u64 (bits .xor .u64 r505_0 (IntKind.wrap .u64 ((IntKind.wrap .u64 (v__2 + v__3)) + (bits .xor .u64 r496_0 (IntKind.wrap .u64 (v__0 + v__1))))))), .d (.int .u64 (IntKind.wrap .u64 ((IntKind.wrap .u64 (v__2 + v__3)) + (bits .xor .u64 r496_0 (IntKind.wrap .u64 (v__0 + v__1)))))), .d (.int .u64 (bits .xor .u64 r503_0 (IntKind.wrap .u64 (r499_0 + (bits .xor .u64 r501_0 (IntKind.wrap .u64 (v__2 + v__3)))))))]), (1, [.d (.int .u64 0), .d (.int .u64 0), .d (.int .u64 0), .d (.int .u64 0)])], 2⟩ [FnOK Go.Proofs.Try.prog 96 (f96_broughamref03_left_in (bits .xor .u64 r496_0 (IntKind.wrap .u64 (v__0 + v__1))) 17) (f96_broughamref03_left_out r505_0), 1 + 1 ≤ 4] (by kernel_rfl) ⟨(f96_broughamref03_left_ok (bits .xor .u64 r496_0 (IntKind.wrap .u64 (v__0 + v__1))) 17 r505_0 cr505_0), (by decide), trivial⟩ ?_
  obtain ⟨r506_0, cr506_0, h⟩ := bindS h
  refine At.step hm ht ⟨[(2, .call [] [] (f96_broughamref03_left_out r506_0))], [], [], [1, 2], [0, 1]⟩ 11 ⟨[(1, .one (.c (.ptr 0 0))), (2, .one (.c (.ptr 1 0)))], [], [(0, [.d (.int .u64 (IntKind.wrap .u64 (r499_0 + (bits .xor .u64 r501_0 (IntKind.wrap .u64 (v__2 + v__3)))))), .d (.int .u64 (bits .xor .u64 r505_0 (IntKind.wrap .u64 ((IntKind.wrap .u64 (v__2 + v__3)) + (bits .xor .u64 r496_0 (IntKind.wrap .u64 (v__0 + v__1))))))), .d (.int .u64 r506_0), .d (.int .u64 (bits .xor .u64 r503_0 (IntKind.wrap .u64 (r499_0 + (bits .xor .u64 r501_0 (IntKind.wrap .u64 (v__2 + v__3)))))))]), (1, [.d (.int .u64 0), .d (.int .u64 0), .d (.int .u64 0), .d (.int .u64 0)])], 2⟩ [FnOK Go.Proofs.Try.prog 96 (f96_broughamref03_left_in (IntKind.wrap .u64 ((IntKind.wrap .u64 (v__2 + v__3)) + (bits .xor .u64 r496_0 (IntKind.wrap .u64 (v__0 + v__1))))) 32) (f96_broughamref03_left_out r506_0), 2 + 1 ≤ 4] (by kernel_rfl) ⟨(f96_broughamref03_left_ok (IntKind.wrap .u64 ((IntKind.wrap .u64 (v__2 + v__3)) + (bits .xor .u64 r496_0 (IntKind.wrap .u64 (v__0 + v__1))))) 32 r506_0 cr506_0), (by decide), trivial⟩ ?_
  have h := Option.some.inj h
  subst h
  exact At.fin hm ht ⟨[], [], [], [2], [1]⟩ [0 + 4 ≤ 4] (by kernel_rfl) ⟨(by decide), trivial⟩
/-! brougham/broughamref03.take -/
def f92_broughamref03_take_in (v__0 : Int) (v__1 : Int) (v__2 : Int) (v__3 : Int) (m : Int) : Inn := ⟨[.agg [.d (.int .u64 v__0), .d (.int .u64 v__1), .d (.int .u64 v__2), .d (.int .u64 v__3)], .c (.d (.int .u64 m))], [], [], 0⟩
def f92_broughamref03_take_out (r : Int × Int × Int × Int) : Out := ⟨.one (.agg [.d (.int .u64 r.1), .d (.int .u64 r.2.1), .d (.int .u64 r.2.2.1), .d (.int .u64 r.2.2.2)]), [], [(0, [.d (.int .u64 r.1), .d (.int .u64 r.2.1), .d (.int .u64 r.2.2.1), .d (.int .u64 r.2.2.2)])], 1⟩
def f92_broughamref03_take (v__0 : Int) (v__1 : Int) (v__2 : Int) (v__3 : Int) (m : Int) : Option (Int × Int × Int × Int) :=
  (f93_broughamref03_round v__0 v__1 v__2 (bits .xor .u64 v__3 m)).bind fun r493_0 =>
  (f93_broughamref03_round r493_0.1 r493_0.2.1 r493_0.2.2.1 r493_0.2.2.2).bind fun r493_1 =>
  some ((bits .xor .u64 r493_1.1 m), r493_1.2.1, r493_1.2.2.1, r493_1.2.2.2)
theorem f92_broughamref03_take_ok (v__0 : Int) (v__1 : Int) (v__2 : Int) (v__3 : Int) (m : Int) (r : Int × Int × Int × Int) (h : f92_broughamref03_take v__0 v__1 v__2 v__3 m = some r) : FnOK Go.Proofs.Try.prog 92 (f92_broughamref03_take_in v__0 v__1 v__2 v__3 m) (f92_broughamref03_take_out r) := by
  unfold f92_broughamref03_take at h
  refine At.fn (r := 0) Go.Proofs.Try.func92 rfl (by kernel_rfl) rfl rfl (by kernel_rfl) ?_
  show At Go.Proofs.Try.prog Go.Proofs.Try.f92 0 0 ⟨[(0, .one (.agg [.d (.int .u64 v__0), .d (.int .u64 v__1), .d (.int .u64 v__2), .d (.int .u64 v__3)])), (1, .one (.c (.d (.int .u64 m))))], [], [], 0⟩ _
  refine At.step hm ht ⟨[], [], [], [1, 2, 4], [0, 1]⟩ 1 ⟨[(1, .one (.c (.d (.int .u64 m)))), (2, .one (.c (.ptr 0 0))), (4, .one (.c (.ptr 1 0)))], [], [(0, [.d (.int .u64 v__0), .d (.int .u64 v__1), .d (.int .u64 v__2), .d (.int .u64 v__3)]), (1, [.d (.int .u64 0), .d (.int .u64 0), .d (.int .u64 0), .d (.int .u64 0)])], 2⟩ [] (by kernel_rfl) trivial ?_
  refine At.step hm ht ⟨[], [], [], [1, 2, 4], [0, 1]⟩ 2 ⟨[(1, .one (.c (.d (.int .u64 m)))), (2, .one (.c (.ptr 0 0))), (4, .one (.c (.ptr 1 0)))], [], [(0, [.d (.int .u64 v__0), .d (.int .u64 v__1), .d (.int .u64 v__2), .d (.int .u64 (bits .xor .u64 v__3 m))]), (1, [.d (.int .u64 0), .d (.int .u64 0), .d (.int .u64 0), .d (.int .u64 0)])], 2⟩ [3 + 1 ≤ 4] (by kernel_rfl) ⟨(by decide), trivial⟩ ?_
  obtain ⟨r493_0, cr493_0, h⟩ := bindS h
  obtain ⟨r493_1, cr493_1, h⟩ := bindS h
  refine At.step hm ht ⟨[(1, .call [] [] (f93_broughamref03_round_out r493_0)), (2, .call [] [] (f93_broughamref03_round_out r493_1))], [], [], [1, 2, 4], [0, 1]⟩ 3 ⟨[(1, .one (.c (.d (.int .u64 m)))), (2, .one (.c (.ptr 0 0))), (4, .one (.c (.ptr 1 0)))], [], [(0, [.d (.int .u64 r493_1.1), .d (.int .u64 r493_1.2.1), .d (.int .u64 r493_1.2.2.1), .d (.int .u64 r493_1.2.2.2)]), (1, [.d (.int .u64 0), .d (.int .u64 0), .d (.int .u64 0), .d (.int .u64 0)])], 2⟩ [FnOK Go.Proofs.Try.prog 93 (f93_broughamref03_round_in v__0 v__1 v__2 (bits .xor .u64 v__3 m)) (f93_broughamref03_round_out r493_0), FnOK Go.Proofs.Try.prog 93 (f93_broughamref03_round_in r493_0.1 r493_0.2.1 r493_0.2.2.1 r493_0.2.2.2) (f93_broughamref03_round_out r493_1), 0 + 4 ≤ 4] (by kernel_rfl) ⟨(f93_broughamref03_round_ok v__0 v__1 v__2 (bits .xor .u64 v__3 m) r493_0 cr493_0), (f93_broughamref03_round_ok r493_0.1 r493_0.2.1 r493_0.2.2.1 r493_0.2.2.2 r493_1 cr493_1), (by decide), trivial⟩ ?_
  refine At.step hm ht ⟨[], [], [], [2, 4], [0, 1]⟩ 4 ⟨[(2, .one (.c (.ptr 0 0))), (4, .one (.c (.ptr 1 0)))], [], [(0, [.d (.int .u64 (bits .xor .u64 r493_1.1 m)), .d (.int .u64 r493_1.2.1), .d (.int .u64 r493_1.2.2.1), .d (.int .u64 r493_1.2.2.2)]), (1, [.d (.int .u64 0), .d (.int .u64 0), .d (.int .u64 0), .d (.int .u64 0)])], 2⟩ [0 + 1 ≤ 4] (by kernel_rfl) ⟨(by decide), trivial⟩ ?_
  have h := Option.some.inj h
  subst h
  exact At.fin hm ht ⟨[], [], [], [4], [1]⟩ [0 + 4 ≤ 4] (by kernel_rfl) ⟨(by decide), trivial⟩
/-! brougham/broughamref03.Sum -/
def f88_broughamref03_Sum_in (k_0 : Int) (k_1 : Int) (b : List Int) : Inn := ⟨[.agg [.d (.int .u64 k_0), .d (.int .u64 k_1)], .c (.d (.sl (.int .u8) b))], [], [], 0⟩
def f88_broughamref03_Sum_out (r : Int) : Out := ⟨.one (.c (.d (.int .u64 r))), [], [], 0⟩
def f88_broughamref03_Sum_L6 : Nat → (List Int) → Int → Int → Int → Int → Int → Int → Int → Option (List Int × Int × Int × Int × Int × Int × Int)
  | 0, _, _, _, _, _, _, _, _ => none
  | n + 1, b, at_, m, i, v__0, v__1, v__2, v__3 =>
    if (decide ((i : Int) ≥ 0)) = true then
      if (0 : Int) ≤ (IntKind.wrap .i64 (at_ + i)) ∧ (IntKind.wrap .i64 (at_ + i)) < (((b).length : Nat) : Int) then
      f88_broughamref03_Sum_L6 n b at_ (IntKind.wrap .u64 ((IntKind.wrap .u64 (m * 256)) + (IntKind.wrap .u64 (b.getD (IntKind.wrap .i64 (at_ + i)).toNat 0)))) (IntKind.wrap .i64 (i - 1)) v__0 v__1 v__2 v__3
      else none
    else
      some ((b, at_, m, v__0, v__1, v__2, v__3))
def f88_broughamref03_Sum_L6_k (e : List Int × Int × Int × Int × Int × Int × Int) (o : Out) : Prop := At Go.Proofs.Try.prog Go.Proofs.Try.f88 0 9 ⟨[(1, .one (.c (.d (.sl (.int .u8) e.1)))), (5, .one (.c (.ptr 0 0))), (6, .one (.c (.d (.int .i64 e.2.1)))), (7, .one (.c (.d (.int .u64 e.2.2.1))))], [], [(0, [.d (.int .u64 e.2.2.2.1), .d (.int .u64 e.2.2.2.2.1), .d (.int .u64 e.2.2.2.2.2.1), .d (.int .u64 e.2.2.2.2.2.2)])], 1⟩ o
theorem f88_broughamref03_Sum_L6_ok (n : Nat) : ∀ (b : List Int) (at_ : Int) (m : Int) (i : Int) (v__0 : Int) (v__1 : Int) (v__2 : Int) (v__3 : Int) (w : List Int × Int × Int × Int × Int × Int × Int) (h : f88_broughamref03_Sum_L6 n b at_ m i v__0 v__1 v__2 v__3 = some w) (o : Out) (hk : f88_broughamref03_Sum_L6_k w o), At Go.Proofs.Try.prog Go.Proofs.Try.f88 0 6 ⟨[(1, .one (.c (.d (.sl (.int .u8) b)))), (5, .one (.c (.ptr 0 0))), (6, .one (.c (.d (.int .i64 at_)))), (7, .one (.c (.d (.int .u64 m)))), (8, .one (.c (.d (.int .i64 i))))], [], [(0, [.d (.int .u64 v__0), .d (.int .u64 v__1), .d (.int .u64 v__2), .d (.int .u64 v__3)])], 1⟩ o := by
  induction n with
  | zero => intro b at_ m i v__0 v__1 v__2 v__3 w h; rw [f88_broughamref03_Sum_L6] at h; cases h
  | succ n ih =>
    intro b at_ m i v__0 v__1 v__2 v__3 w h o hk
    rw [f88_broughamref03_Sum_L6] at h
    rcases iteS h with ⟨b485_e0, h⟩ | ⟨b485_e0, h⟩
    · refine At.step hm ht ⟨[], [true], [], [1, 5, 6, 7, 8], [0]⟩ 8 ⟨[(1, .one (.c (.d (.sl (.int .u8) b)))), (5, .one (.c (.ptr 0 0))), (6, .one (.c (.d (.int .i64 at_)))), (7, .one (.c (.d (.int .u64 m)))), (8, .one (.c (.d (.int .i64 i))))], [], [(0, [.d (.int .u64 v__0), .d (.int .u64 v__1), .d (.int .u64 v__2), .d (.int .u64 v__3)])], 1⟩ [(decide ((i : Int) ≥ 0)) = true] (by kernel_rfl) ⟨b485_e0, trivial⟩ ?_
      obtain ⟨g486_0, h⟩ := ifS h
      refine At.step hm ht ⟨[], [], [], [1, 5, 6, 7, 8], [0]⟩ 7 ⟨[(1, .one (.c (.d (.sl (.int .u8) b)))), (5, .one (.c (.ptr 0 0))), (6, .one (.c (.d (.int .i64 at_)))), (7, .one (.c (.d (.int .u64 (IntKind.wrap .u64 ((IntKind.wrap .u64 (m * 256)) + (IntKind.wrap .u64 (b.getD (IntKind.wrap .i64 (at_ + i)).toNat 0)))))))), (8, .one (.c (.d (.int .i64 i))))], [], [(0, [.d (.int .u64 v__0), .d (.int .u64 v__1), .d (.int .u64 v__2), .d (.int .u64 v__3)])], 1⟩ [(0 : Int) ≤ (IntKind.wrap .i64 (at_ + i)) ∧ (IntKind.wrap .i64 (at_ + i)) < (((b).length : Nat) : Int)] (by kernel_rfl) ⟨g486_0, trivial⟩ ?_
      refine At.step hm ht ⟨[], [], [], [1, 5, 6, 7, 8], [0]⟩ 6 ⟨[(1, .one (.c (.d (.sl (.int .u8) b)))), (5, .one (.c (.ptr 0 0))), (6, .one (.c (.d (.int .i64 at_)))), (7, .one (.c (.d (.int .u64 (IntKind.wrap .u64 ((IntKind.wrap .u64 (m * 256)) + (IntKind.wrap .u64 (b.getD (IntKind.wrap .i64 (at_ + i)).toNat 0)))))))), (8, .one (.c (.d (.int .i64 (IntKind.wrap .i64 (i - 1))))))], [], [(0, [.d (.int .u64 v__0), .d (.int .u64 v__1), .d (.int .u64 v__2), .d (.int .u64 v__3)])], 1⟩ [] (by kernel_rfl) trivial ?_
      exact ih b at_ (IntKind.wrap .u64 ((IntKind.wrap .u64 (m * 256)) + (IntKind.wrap .u64 (b.getD (IntKind.wrap .i64 (at_ + i)).toNat 0)))) (IntKind.wrap .i64 (i - 1)) v__0 v__1 v__2 v__3 w h o hk
    · refine At.step hm ht ⟨[], [false], [], [1, 5, 6, 7], [0]⟩ 9 ⟨[(1, .one (.c (.d (.sl (.int .u8) b)))), (5, .one (.c (.ptr 0 0))), (6, .one (.c (.d (.int .i64 at_)))), (7, .one (.c (.d (.int .u64 m))))], [], [(0, [.d (.int .u64 v__0), .d (.int .u64 v__1), .d (.int .u64 v__2), .d (.int .u64 v__3)])], 1⟩ [(decide ((i : Int) ≥ 0)) = false] (by kernel_rfl) ⟨b485_e0, trivial⟩ ?_
      have h := Option.some.inj h
      subst h
      exact hk
def f88_broughamref03_Sum_L3 : Nat → (List Int) → Int → Int → Int → Int → Int → Option (List Int × Int × Int × Int × Int × Int)
  | 0, _, _, _, _, _, _ => none
  | n + 1, b, at_, v__0, v__1, v__2, v__3 =>
    if (decide (((IntKind.wrap .i64 (((b.length : Nat) : Int) - at_)) : Int) ≥ 8)) = true then
      (f88_broughamref03_Sum_L6 n b at_ 0 7 v__0 v__1 v__2 v__3).bind fun w488 =>
      (f92_broughamref03_take w488.2.2.2.1 w488.2.2.2.2.1 w488.2.2.2.2.2.1 w488.2.2.2.2.2.2 w488.2.2.1).bind fun r490_0 =>
      f88_broughamref03_Sum_L3 n w488.1 (IntKind.wrap .i64 (w488.2.1 + 8)) r490_0.1 r490_0.2.1 r490_0.2.2.1 r490_0.2.2.2
    else
      some ((b, at_, v__0, v__1, v__2, v__3))
def f88_broughamref03_Sum_L3_k (e : List Int × Int × Int × Int × Int × Int) (o : Out) : Prop := At Go.Proofs.Try.prog Go.Proofs.Try.f88 0 11 ⟨[(1, .one (.c (.d (.sl (.int .u8) e.1)))), (5, .one (.c (.ptr 0 0))), (6, .one (.c (.d (.int .i64 e.2.1))))], [], [(0, [.d (.int .u64 e.2.2.1), .d (.int .u64 e.2.2.2.1), .d (.int .u64 e.2.2.2.2.1), .d (.int .u64 e.2.2.2.2.2)])], 1⟩ o
theorem f88_broughamref03_Sum_L3_ok (n : Nat) : ∀ (b : List Int) (at_ : Int) (v__0 : Int) (v__1 : Int) (v__2 : Int) (v__3 : Int) (w : List Int × Int × Int × Int × Int × Int) (h : f88_broughamref03_Sum_L3 n b at_ v__0 v__1 v__2 v__3 = some w) (o : Out) (hk : f88_broughamref03_Sum_L3_k w o), At Go.Proofs.Try.prog Go.Proofs.Try.f88 0 3 ⟨[(1, .one (.c (.d (.sl (.int .u8) b)))), (5, .one (.c (.ptr 0 0))), (6, .one (.c (.d (.int .i64 at_))))], [], [(0, [.d (.int .u64 v__0), .d (.int .u64 v__1), .d (.int .u64 v__2), .d (.int .u64 v__3)])], 1⟩ o := by
  induction n with
  | zero => intro b at_ v__0 v__1 v__2 v__3 w h; rw [f88_broughamref03_Sum_L3] at h; cases h
  | succ n ih =>
    intro b at_ v__0 v__1 v__2 v__3 w h o hk
    rw [f88_broughamref03_Sum_L3] at h
    rcases iteS h with ⟨b482_e0, h⟩ | ⟨b482_e0, h⟩
    · refine At.step hm ht ⟨[], [true], [], [1, 5, 6], [0]⟩ 4 ⟨[(1, .one (.c (.d (.sl (.int .u8) b)))), (5, .one (.c (.ptr 0 0))), (6, .one (.c (.d (.int .i64 at_))))], [], [(0, [.d (.int .u64 v__0), .d (.int .u64 v__1), .d (.int .u64 v__2), .d (.int .u64 v__3)])], 1⟩ [(decide (((IntKind.wrap .i64 (((b.length : Nat) : Int) - at_)) : Int) ≥ 8)) = true] (by kernel_rfl) ⟨b482_e0, trivial⟩ ?_
      refine At.step hm ht ⟨[], [], [], [1, 5, 6, 7], [0]⟩ 5 ⟨[(1, .one (.c (.d (.sl (.int .u8) b)))), (5, .one (.c (.ptr 0 0))), (6, .one (.c (.d (.int .i64 at_)))), (7, .one (.c (.d (.int .u64 0))))], [], [(0, [.d (.int .u64 v__0), .d (.int .u64 v__1), .d (.int .u64 v__2), .d (.int .u64 v__3)])], 1⟩ [] (by kernel_rfl) trivial ?_
      refine At.step hm ht ⟨[], [], [], [1, 5, 6, 7, 8], [0]⟩ 6 ⟨[(1, .one (.c (.d (.sl (.int .u8) b)))), (5, .one (.c (.ptr 0 0))), (6, .one (.c (.d (.int .i64 at_)))), (7, .one (.c (.d (.int .u64 0)))), (8, .one (.c (.d (.int .i64 7))))], [], [(0, [.d (.int .u64 v__0), .d (.int .u64 v__1), .d (.int .u64 v__2), .d (.int .u64 v__3)])], 1⟩ [] (by kernel_rfl) trivial ?_
      obtain ⟨w488, cw488, h⟩ := bindS h
      refine f88_broughamref03_Sum_L6_ok n b at_ 0 7 v__0 v__1 v__2 v__3 w488 cw488 _ ?_
      show At Go.Proofs.Try.prog Go.Proofs.Try.f88 0 9 ⟨[(1, .one (.c (.d (.sl (.int .u8) w488.1)))), (5, .one (.c (.ptr 0 0))), (6, .one (.c (.d (.int .i64 w488.2.1)))), (7, .one (.c (.d (.int .u64 w488.2.2.1))))], [], [(0, [.d (.int .u64 w488.2.2.2.1), .d (.int .u64 w488.2.2.2.2.1), .d (.int .u64 w488.2.2.2.2.2.1), .d (.int .u64 w488.2.2.2.2.2.2)])], 1⟩ _
      obtain ⟨r490_0, cr490_0, h⟩ := bindS h
      refine At.step hm ht ⟨[(2, .call [] [] (f92_broughamref03_take_out r490_0))], [], [], [1, 5, 6], [0]⟩ 10 ⟨[(1, .one (.c (.d (.sl (.int .u8) w488.1)))), (5, .one (.c (.ptr 0 0))), (6, .one (.c (.d (.int .i64 w488.2.1))))], [], [(0, [.d (.int .u64 r490_0.1), .d (.int .u64 r490_0.2.1), .d (.int .u64 r490_0.2.2.1), .d (.int .u64 r490_0.2.2.2)])], 1⟩ [FnOK Go.Proofs.Try.prog 92 (f92_broughamref03_take_in w488.2.2.2.1 w488.2.2.2.2.1 w488.2.2.2.2.2.1 w488.2.2.2.2.2.2 w488.2.2.1) (f92_broughamref03_take_out r490_0), 0 + 4 ≤ 4] (by kernel_rfl) ⟨(f92_broughamref03_take_ok w488.2.2.2.1 w488.2.2.2.2.1 w488.2.2.2.2.2.1 w488.2.2.2.2.2.2 w488.2.2.1 r490_0 cr490_0), (by decide), trivial⟩ ?_
      refine At.step hm ht ⟨[], [], [], [1, 5, 6], [0]⟩ 3 ⟨[(1, .one (.c (.d (.sl (.int .u8) w488.1)))), (5, .one (.c (.ptr 0 0))), (6, .one (.c (.d (.int .i64 (IntKind.wrap .i64 (w488.2.1 + 8))))))], [], [(0, [.d (.int .u64 r490_0.1), .d (.int .u64 r490_0.2.1), .d (.int .u64 r490_0.2.2.1), .d (.int .u64 r490_0.2.2.2)])], 1⟩ [] (by kernel_rfl) trivial ?_
      exact ih w488.1 (IntKind.wrap .i64 (w488.2.1 + 8)) r490_0.1 r490_0.2.1 r490_0.2.2.1 r490_0.2.2.2 w h o hk
    · refine At.step hm ht ⟨[], [false], [], [1, 5, 6], [0]⟩ 11 ⟨[(1, .one (.c (.d (.sl (.int .u8) b)))), (5, .one (.c (.ptr 0 0))), (6, .one (.c (.d (.int .i64 at_))))], [], [(0, [.d (.int .u64 v__0), .d (.int .u64 v__1), .d (.int .u64 v__2), .d (.int .u64 v__3)])], 1⟩ [(decide (((IntKind.wrap .i64 (((b.length : Nat) : Int) - at_)) : Int) ≥ 8)) = false] (by kernel_rfl) ⟨b482_e0, trivial⟩ ?_
      have h := Option.some.inj h
      subst h
      exact hk
def f88_broughamref03_Sum_L13 : Nat → (List Int) → Int → Int → Int → Int → Int → Int → Int → Option (Int × Int × Int × Int × Int)
  | 0, _, _, _, _, _, _, _, _ => none
  | n + 1, b, at_, m, i, v__0, v__1, v__2, v__3 =>
    if (decide ((i : Int) ≥ 0)) = true then
      if (decide (((IntKind.wrap .i64 (at_ + i)) : Int) < ((b.length : Nat) : Int))) = true then
        if (0 : Int) ≤ (IntKind.wrap .i64 (at_ + i)) ∧ (IntKind.wrap .i64 (at_ + i)) < (((b).length : Nat) : Int) then
        f88_broughamref03_Sum_L13 n b at_ (IntKind.wrap .u64 ((IntKind.wrap .u64 (m * 256)) + (IntKind.wrap .u64 (b.getD (IntKind.wrap .i64 (at_ + i)).toNat 0)))) (IntKind.wrap .i64 (i - 1)) v__0 v__1 v__2 v__3
        else none
      else
        f88_broughamref03_Sum_L13 n b at_ (IntKind.wrap .u64 ((IntKind.wrap .u64 (m * 256)) + 0)) (IntKind.wrap .i64 (i - 1)) v__0 v__1 v__2 v__3
    else
      some ((m, v__0, v__1, v__2, v__3))
def f88_broughamref03_Sum_L13_k (e : Int × Int × Int × Int × Int) (o : Out) : Prop := At Go.Proofs.Try.prog Go.Proofs.Try.f88 0 19 ⟨[(5, .one (.c (.ptr 0 0))), (9, .one (.c (.d (.int .u64 e.1))))], [], [(0, [.d (.int .u64 e.2.1), .d (.int .u64 e.2.2.1), .d (.int .u64 e.2.2.2.1), .d (.int .u64 e.2.2.2.2)])], 1⟩ o
theorem f88_broughamref03_Sum_L13_ok (n : Nat) : ∀ (b : List Int) (at_ : Int) (m : Int) (i : Int) (v__0 : Int) (v__1 : Int) (v__2 : Int) (v__3 : Int) (w : Int × Int × Int × Int × Int) (h : f88_broughamref03_Sum_L13 n b at_ m i v__0 v__1 v__2 v__3 = some w) (o : Out) (hk : f88_broughamref03_Sum_L13_k w o), At Go.Proofs.Try.prog Go.Proofs.Try.f88 0 13 ⟨[(1, .one (.c (.d (.sl (.int .u8) b)))), (5, .one (.c (.ptr 0 0))), (6, .one (.c (.d (.int .i64 at_)))), (9, .one (.c (.d (.int .u64 m)))), (10, .one (.c (.d (.int .i64 i))))], [], [(0, [.d (.int .u64 v__0), .d (.int .u64 v__1), .d (.int .u64 v__2), .d (.int .u64 v__3)])], 1⟩ o := by
  induction n with
  | zero => intro b at_ m i v__0 v__1 v__2 v__3 w h; rw [f88_broughamref03_Sum_L13] at h; cases h
  | succ n ih =>
    intro b at_ m i v__0 v__1 v__2 v__3 w h o hk
    rw [f88_broughamref03_Sum_L13] at h
    rcases iteS h with ⟨b515_e0, h⟩ | ⟨b515_e0, h⟩
    · refine At.step hm ht ⟨[], [true], [], [1, 5, 6, 9, 10], [0]⟩ 15 ⟨[(1, .one (.c (.d (.sl (.int .u8) b)))), (5, .one (.c (.ptr 0 0))), (6, .one (.c (.d (.int .i64 at_)))), (9, .one (.c (.d (.int .u64 m)))), (10, .one (.c (.d (.int .i64 i))))], [], [(0, [.d (.int .u64 v__0), .d (.int .u64 v__1), .d (.int .u64 v__2), .d (.int .u64 v__3)])], 1⟩ [(decide ((i : Int) ≥ 0)) = true] (by kernel_rfl) ⟨b515_e0, trivial⟩ ?_
      refine At.step hm ht ⟨[], [], [], [1, 5, 6, 9, 10, 11], [0]⟩ 16 ⟨[(1, .one (.c (.d (.sl (.int .u8) b)))), (5, .one (.c (.ptr 0 0))), (6, .one (.c (.d (.int .i64 at_)))), (9, .one (.c (.d (.int .u64 m)))), (10, .one (.c (.d (.int .i64 i)))), (11, .one (.c (.d (.int .u64 0))))], [], [(0, [.d (.int .u64 v__0), .d (.int .u64 v__1), .d (.int .u64 v__2), .d (.int .u64 v__3)])], 1⟩ [] (by kernel_rfl) trivial ?_
      rcases iteS h with ⟨b517_e0, h⟩ | ⟨b517_e0, h⟩
      · refine At.step hm ht ⟨[], [true], [], [1, 5, 6, 9, 10], [0]⟩ 17 ⟨[(1, .one (.c (.d (.sl (.int .u8) b)))), (5, .one (.c (.ptr 0 0))), (6, .one (.c (.d (.int .i64 at_)))), (9, .one (.c (.d (.int .u64 m)))), (10, .one (.c (.d (.int .i64 i))))], [], [(0, [.d (.int .u64 v__0), .d (.int .u64 v__1), .d (.int .u64 v__2), .d (.int .u64 v__3)])], 1⟩ [(decide (((IntKind.wrap .i64 (at_ + i)) : Int) < ((b.length : Nat) : Int))) = true] (by kernel_rfl) ⟨b517_e0, trivial⟩ ?_
        obtain ⟨g518_0, h⟩ := ifS h
        refine At.step hm ht ⟨[], [], [], [1, 5, 6, 9, 10, 11], [0]⟩ 18 ⟨[(1, .one (.c (.d (.sl (.int .u8) b)))), (5, .one (.c (.ptr 0 0))), (6, .one (.c (.d (.int .i64 at_)))), (9, .one (.c (.d (.int .u64 m)))), (10, .one (.c (.d (.int .i64 i)))), (11, .one (.c (.d (.int .u64 (IntKind.wrap .u64 (b.getD (IntKind.wrap .i64 (at_ + i)).toNat 0))))))], [], [(0, [.d (.int .u64 v__0), .d (.int .u64 v__1), .d (.int .u64 v__2), .d (.int .u64 v__3)])], 1⟩ [(0 : Int) ≤ (IntKind.wrap .i64 (at_ + i)) ∧ (IntKind.wrap .i64 (at_ + i)) < (((b).length : Nat) : Int)] (by kernel_rfl) ⟨g518_0, trivial⟩ ?_
        refine At.step hm ht ⟨[], [], [], [1, 5, 6, 9, 10], [0]⟩ 14 ⟨[(1, .one (.c (.d (.sl (.int .u8) b)))), (5, .one (.c (.ptr 0 0))), (6, .one (.c (.d (.int .i64 at_)))), (9, .one (.c (.d (.int .u64 (IntKind.wrap .u64 ((IntKind.wrap .u64 (m * 256)) + (IntKind.wrap .u64 (b.getD (IntKind.wrap .i64 (at_ + i)).toNat 0)))))))), (10, .one (.c (.d (.int .i64 i))))], [], [(0, [.d (.int .u64 v__0), .d (.int .u64 v__1), .d (.int .u64 v__2), .d (.int .u64 v__3)])], 1⟩ [] (by kernel_rfl) trivial ?_
        refine At.step hm ht ⟨[], [], [], [1, 5, 6, 9, 10], [0]⟩ 13 ⟨[(1, .one (.c (.d (.sl (.int .u8) b)))), (5, .one (.c (.ptr 0 0))), (6, .one (.c (.d (.int .i64 at_)))), (9, .one (.c (.d (.int .u64 (IntKind.wrap .u64 ((IntKind.wrap .u64 (m * 256)) + (IntKind.wrap .u64 (b.getD (IntKind.wrap .i64 (at_ + i)).toNat 0)))))))), (10, .one (.c (.d (.int .i64 (IntKind.wrap .i64 (i - 1))))))], [], [(0, [.d (.int .u64 v__0), .d (.int .u64 v__1), .d (.int .u64 v__2), .d (.int .u64 v__3)])], 1⟩ [] (by kernel_rfl) trivial ?_
        exact ih b at_ (IntKind.wrap .u64 ((IntKind.wrap .u64 (m * 256)) + (IntKind.wrap .u64 (b.getD (IntKind.wrap .i64 (at_ + i)).toNat 0)))) (IntKind.wrap .i64 (i - 1)) v__0 v__1 v__2 v__3 w h o hk
      · refine At.step hm ht ⟨[], [false], [], [1, 5, 6, 9, 10, 11], [0]⟩ 18 ⟨[(1, .one (.c (.d (.sl (.int .u8) b)))), (5, .one (.c (.ptr 0 0))), (6, .one (.c (.d (.int .i64 at_)))), (9, .one (.c (.d (.int .u64 m)))), (10, .one (.c (.d (.int .i64 i)))), (11, .one (.c (.d (.int .u64 0))))], [], [(0, [.d (.int .u64 v__0), .d (.int .u64 v__1), .d (.int .u64 v__2), .d (.int .u64 v__3)])], 1⟩ [(decide (((IntKind.wrap .i64 (at_ + i)) : Int) < ((b.length : Nat) : Int))) = false] (by kernel_rfl) ⟨b517_e0, trivial⟩ ?_
        refine At.step hm ht ⟨[], [], [], [1, 5, 6, 9, 10], [0]⟩ 14 ⟨[(1, .one (.c (.d (.sl (.int .u8) b)))), (5, .one (.c (.ptr 0 0))), (6, .one (.c (.d (.int .i64 at_)))), (9, .one (.c (.d (.int .u64 (IntKind.wrap .u64 ((IntKind.wrap .u64 (m * 256)) + 0)))))), (10, .one (.c (.d (.int .i64 i))))], [], [(0, [.d (.int .u64 v__0), .d (.int .u64 v__1), .d (.int .u64 v__2), .d (.int .u64 v__3)])], 1⟩ [] (by kernel_rfl) trivial ?_
        refine At.step hm ht ⟨[], [], [], [1, 5, 6, 9, 10], [0]⟩ 13 ⟨[(1, .one (.c (.d (.sl (.int .u8) b)))), (5, .one (.c (.ptr 0 0))), (6, .one (.c (.d (.int .i64 at_)))), (9, .one (.c (.d (.int .u64 (IntKind.wrap .u64 ((IntKind.wrap .u64 (m * 256)) + 0)))))), (10, .one (.c (.d (.int .i64 (IntKind.wrap .i64 (i - 1))))))], [], [(0, [.d (.int .u64 v__0), .d (.int .u64 v__1), .d (.int .u64 v__2), .d (.int .u64 v__3)])], 1⟩ [] (by kernel_rfl) trivial ?_
        exact ih b at_ (IntKind.wrap .u64 ((IntKind.wrap .u64 (m * 256)) + 0)) (IntKind.wrap .i64 (i - 1)) v__0 v__1 v__2 v__3 w h o hk
    · refine At.step hm ht ⟨[], [false], [], [5, 9], [0]⟩ 19 ⟨[(5, .one (.c (.ptr 0 0))), (9, .one (.c (.d (.int .u64 m))))], [], [(0, [.d (.int .u64 v__0), .d (.int .u64 v__1), .d (.int .u64 v__2), .d (.int .u64 v__3)])], 1⟩ [(decide ((i : Int) ≥ 0)) = false] (by kernel_rfl) ⟨b515_e0, trivial⟩ ?_
      have h := Option.some.inj h
      subst h
      exact hk
def f88_broughamref03_Sum (n : Nat) (k_0 : Int) (k_1 : Int) (b : List Int) : Option (Int) :=
  (f88_broughamref03_Sum_L3 n b 0 (bits .xor .u64 k_0 8317987319222330741) (bits .xor .u64 k_1 7237128888997146477) (bits .xor .u64 k_0 7816392313619706465) (bits .xor .u64 k_1 8387220255154660723)).bind fun w511 =>
  (f88_broughamref03_Sum_L13 n w511.1 w511.2.1 (IntKind.wrap .u64 (Int.tmod ((w511.1.length : Nat) : Int) 256)) 6 w511.2.2.1 w511.2.2.2.1 w511.2.2.2.2.1 w511.2.2.2.2.2).bind fun w523 =>
  (f92_broughamref03_take w523.2.1 w523.2.2.1 w523.2.2.2.1 w523.2.2.2.2 w523.1).bind fun r525_0 =>
  (f93_broughamref03_round r525_0.1 r525_0.2.1 (bits .xor .u64 r525_0.2.2.1 255) r525_0.2.2.2).bind fun r527_0 =>
  (f93_broughamref03_round r527_0.1 r527_0.2.1 r527_0.2.2.1 r527_0.2.2.2).bind fun r527_1 =>
  (f93_broughamref03_round r527_1.1 r527_1.2.1 r527_1.2.2.1 r527_1.2.2.2).bind fun r527_2 =>
  (f93_broughamref03_round r527_2.1 r527_2.2.1 r527_2.2.2.1 r527_2.2.2.2).bind fun r527_3 =>
  some (bits .xor .u64 (bits .xor .u64 (bits .xor .u64 r527_3.1 r527_3.2.1) r527_3.2.2.1) r527_3.2.2.2)
theorem f88_broughamref03_Sum_ok (n : Nat) (k_0 : Int) (k_1 : Int) (b : List Int) (r : Int) (h : f88_broughamref03_Sum n k_0 k_1 b = some r) : FnOK Go.Proofs.Try.prog 88 (f88_broughamref03_Sum_in k_0 k_1 b) (f88_broughamref03_Sum_out r) := by
  unfold f88_broughamref03_Sum at h
  refine At.fn (r := 0) Go.Proofs.Try.func88 rfl (by kernel_rfl) rfl rfl (by kernel_rfl) ?_
  show At Go.Proofs.Try.prog Go.Proofs.Try.f88 0 0 ⟨[(0, .one (.agg [.d (.int .u64 k_0), .d (.int .u64 k_1)])), (1, .one (.c (.d (.sl (.int .u8) b))))], [], [], 0⟩ _
  refine At.step hm ht ⟨[], [], [], [1, 2], [0]⟩ 1 ⟨[(1, .one (.c (.d (.sl (.int .u8) b)))), (2, .one (.c (.ptr 0 0)))], [], [(0, [.d (.int .u64 k_0), .d (.int .u64 k_1)])], 1⟩ [] (by kernel_rfl) trivial ?_
  refine At.step hm ht ⟨[], [], [], [1, 5], [14]⟩ 2 ⟨[(1, .one (.c (.d (.sl (.int .u8) b)))), (5, .one (.c (.ptr 0 0)))], [], [(0, [.d (.int .u64 (bits .xor .u64 k_0 8317987319222330741)), .d (.int .u64 (bits .xor .u64 k_1 7237128888997146477)), .d (.int .u64 (bits .xor .u64 k_0 7816392313619706465)), .d (.int .u64 (bits .xor .u64 k_1 8387220255154660723))])], 1⟩ [0 + 4 ≤ 4] (by kernel_rfl) ⟨(by decide), trivial⟩ ?_
  refine At.step hm ht ⟨[], [], [], [1, 5, 6], [0]⟩ 3 ⟨[(1, .one (.c (.d (.sl (.int .u8) b)))), (5, .one (.c (.ptr 0 0))), (6, .one (.c (.d (.int .i64 0))))], [], [(0, [.d (.int .u64 (bits .xor .u64 k_0 8317987319222330741)), .d (.int .u64 (bits .xor .u64 k_1 7237128888997146477)), .d (.int .u64 (bits .xor .u64 k_0 7816392313619706465)), .d (.int .u64 (bits .xor .u64 k_1 8387220255154660723))])], 1⟩ [] (by kernel_rfl) trivial ?_
  obtain ⟨w511, cw511, h⟩ := bindS h
  refine f88_broughamref03_Sum_L3_ok n b 0 (bits .xor .u64 k_0 8317987319222330741) (bits .xor .u64 k_1 7237128888997146477) (bits .xor .u64 k_0 7816392313619706465) (bits .xor .u64 k_1 8387220255154660723) w511 cw511 _ ?_
  show At Go.Proofs.Try.prog Go.Proofs.Try.f88 0 11 ⟨[(1, .one (.c (.d (.sl (.int .u8) w511.1)))), (5, .one (.c (.ptr 0 0))), (6, .one (.c (.d (.int .i64 w511.2.1))))], [], [(0, [.d (.int .u64 w511.2.2.1), .d (.int .u64 w511.2.2.2.1), .d (.int .u64 w511.2.2.2.2.1), .d (.int .u64 w511.2.2.2.2.2)])], 1⟩ _
  refine At.step hm ht ⟨[], [], [], [1, 5, 6, 9], [0]⟩ 12 ⟨[(1, .one (.c (.d (.sl (.int .u8) w511.1)))), (5, .one (.c (.ptr 0 0))), (6, .one (.c (.d (.int .i64 w511.2.1)))), (9, .one (.c (.d (.int .u64 (IntKind.wrap .u64 (Int.tmod ((w511.1.length : Nat) : Int) 256))))))], [], [(0, [.d (.int .u64 w511.2.2.1), .d (.int .u64 w511.2.2.2.1), .d (.int .u64 w511.2.2.2.2.1), .d (.int .u64 w511.2.2.2.2.2)])], 1⟩ [(256 : Int) ≠ 0] (by kernel_rfl) ⟨(by decide), trivial⟩ ?_
  refine At.step hm ht ⟨[], [], [], [1, 5, 6, 9, 10], [0]⟩ 13 ⟨[(1, .one (.c (.d (.sl (.int .u8) w511.1)))), (5, .one (.c (.ptr 0 0))), (6, .one (.c (.d (.int .i64 w511.2.1)))), (9, .one (.c (.d (.int .u64 (IntKind.wrap .u64 (Int.tmod ((w511.1.length : Nat) : Int) 256)))))), (10, .one (.c (.d (.int .i64 6))))], [], [(0, [.d (.int .u64 w511.2.2.1), .d (.int .u64 w511.2.2.2.1), .d (.int .u64 w511.2.2.2.2.1), .d (.int .u64 w511.2.2.2.2.2)])], 1⟩ [] (by kernel_rfl) trivial ?_
  obtain ⟨w523, cw523, h⟩ := bindS h
  refine f88_broughamref03_Sum_L13_ok n w511.1 w511.2.1 (IntKind.wrap .u64 (Int.tmod ((w511.1.length : Nat) : Int) 256)) 6 w511.2.2.1 w511.2.2.2.1 w511.2.2.2.2.1 w511.2.2.2.2.2 w523 cw523 _ ?_
  show At Go.Proofs.Try.prog Go.Proofs.Try.f88 0 19 ⟨[(5, .one (.c (.ptr 0 0))), (9, .one (.c (.d (.int .u64 w523.1))))], [], [(0, [.d (.int .u64 w523.2.1), .d (.int .u64 w523.2.2.1), .d (.int .u64 w523.2.2.2.1), .d (.int .u64 w523.2.2.2.2)])], 1⟩ _
  obtain ⟨r525_0, cr525_0, h⟩ := bindS h
  refine At.step hm ht ⟨[(2, .call [] [] (f92_broughamref03_take_out r525_0))], [], [], [5], [0]⟩ 20 ⟨[(5, .one (.c (.ptr 0 0)))], [], [(0, [.d (.int .u64 r525_0.1), .d (.int .u64 r525_0.2.1), .d (.int .u64 r525_0.2.2.1), .d (.int .u64 r525_0.2.2.2)])], 1⟩ [FnOK Go.Proofs.Try.prog 92 (f92_broughamref03_take_in w523.2.1 w523.2.2.1 w523.2.2.2.1 w523.2.2.2.2 w523.1) (f92_broughamref03_take_out r525_0), 0 + 4 ≤ 4] (by kernel_rfl) ⟨(f92_broughamref03_take_ok w523.2.1 w523.2.2.1 w523.2.2.2.1 w523.2.2.2.2 w523.1 r525_0 cr525_0), (by decide), trivial⟩ ?_
  refine At.step hm ht ⟨[], [], [], [5], [0]⟩ 21 ⟨[(5, .one (.c (.ptr 0 0)))], [], [(0, [.d (.int .u64 r525_0.1), .d (.int .u64 r525_0.2.1), .d (.int .u64 (bits .xor .u64 r525_0.2.2.1 255)), .d (.int .u64 r525_0.2.2.2)])], 1⟩ [2 + 1 ≤ 4] (by kernel_rfl) ⟨(by decide), trivial⟩ ?_
  obtain ⟨r527_0, cr527_0, h⟩ := bindS h
  obtain ⟨r527_1, cr527_1, h⟩ := bindS h
  obtain ⟨r527_2, cr527_2, h⟩ := bindS h
  obtain ⟨r527_3, cr527_3, h⟩ := bindS h
  refine At.step hm ht ⟨[(1, .call [] [] (f93_broughamref03_round_out r527_0)), (2, .call [] [] (f93_broughamref03_round_out r527_1)), (3, .call [] [] (f93_broughamref03_round_out r527_2)), (4, .call [] [] (f93_broughamref03_round_out r527_3))], [], [], [5], [0]⟩ 22 ⟨[(5, .one (.c (.ptr 0 0)))], [], [(0, [.d (.int .u64 r527_3.1), .d (.int .u64 r527_3.2.1), .d (.int .u64 r527_3.2.2.1), .d (.int .u64 r527_3.2.2.2)])], 1⟩ [FnOK Go.Proofs.Try.prog 93 (f93_broughamref03_round_in r525_0.1 r525_0.2.1 (bits .xor .u64 r525_0.2.2.1 255) r525_0.2.2.2) (f93_broughamref03_round_out r527_0), FnOK Go.Proofs.Try.prog 93 (f93_broughamref03_round_in r527_0.1 r527_0.2.1 r527_0.2.2.1 r527_0.2.2.2) (f93_broughamref03_round_out r527_1), FnOK Go.Proofs.Try.prog 93 (f93_broughamref03_round_in r527_1.1 r527_1.2.1 r527_1.2.2.1 r527_1.2.2.2) (f93_broughamref03_round_out r527_2), FnOK Go.Proofs.Try.prog 93 (f93_broughamref03_round_in r527_2.1 r527_2.2.1 r527_2.2.2.1 r527_2.2.2.2) (f93_broughamref03_round_out r527_3), 0 + 4 ≤ 4] (by kernel_rfl) ⟨(f93_broughamref03_round_ok r525_0.1 r525_0.2.1 (bits .xor .u64 r525_0.2.2.1 255) r525_0.2.2.2 r527_0 cr527_0), (f93_broughamref03_round_ok r527_0.1 r527_0.2.1 r527_0.2.2.1 r527_0.2.2.2 r527_1 cr527_1), (f93_broughamref03_round_ok r527_1.1 r527_1.2.1 r527_1.2.2.1 r527_1.2.2.2 r527_2 cr527_2), (f93_broughamref03_round_ok r527_2.1 r527_2.2.1 r527_2.2.2.1 r527_2.2.2.2 r527_3 cr527_3), (by decide), trivial⟩ ?_
  have h := Option.some.inj h
  subst h
  exact At.fin hm ht ⟨[], [], [], [4], []⟩ [] (by kernel_rfl) trivial
/-! brougham/broughamref10.Tag -/
def f66_broughamref10_Tag_in (k_0 : Int) (k_1 : Int) (s_0 : Int) (s_1 : Int) (s_2 : Int) (s_3 : Int) (s_4 : Int) (s_5 : List (Int × List Int)) (s_6 : List Int) (kind : Int) (body : List Int) : Inn := ⟨[.agg [.d (.int .u64 k_0), .d (.int .u64 k_1)], .agg [.d (.int .u16 s_0), .d (.int .u16 s_1), .d (.int .u32 s_2), .d (.int .u32 s_3), .d (.int .u8 s_4), .d (.sl (.pair (.int .u8) (.slice (.int .u8))) s_5), .d (.sl (.int .u8) s_6)], .c (.d (.int .u8 kind)), .c (.d (.sl (.int .u8) body))], [], [], 0⟩
def f66_broughamref10_Tag_out (r : Int) : Out := ⟨.one (.c (.d (.int .u64 r))), [], [], 0⟩
def f66_broughamref10_Tag (n : Nat) (k_0 : Int) (k_1 : Int) (s_0 : Int) (s_1 : Int) (s_2 : Int) (s_3 : Int) (s_4 : Int) (s_5 : List (Int × List Int)) (s_6 : List Int) (kind : Int) (body : List Int) : Option (Int) :=
  (f64_broughamref10_Cover n s_0 s_1 s_2 s_3 s_4 s_5 s_6 kind body).bind fun r434_0 =>
  (f88_broughamref03_Sum n k_0 k_1 r434_0).bind fun r434_1 =>
  some r434_1
theorem f66_broughamref10_Tag_ok (n : Nat) (k_0 : Int) (k_1 : Int) (s_0 : Int) (s_1 : Int) (s_2 : Int) (s_3 : Int) (s_4 : Int) (s_5 : List (Int × List Int)) (s_6 : List Int) (kind : Int) (body : List Int) (r : Int) (h : f66_broughamref10_Tag n k_0 k_1 s_0 s_1 s_2 s_3 s_4 s_5 s_6 kind body = some r) : FnOK Go.Proofs.Try.prog 66 (f66_broughamref10_Tag_in k_0 k_1 s_0 s_1 s_2 s_3 s_4 s_5 s_6 kind body) (f66_broughamref10_Tag_out r) := by
  unfold f66_broughamref10_Tag at h
  refine At.fn (r := 0) Go.Proofs.Try.func66 rfl (by kernel_rfl) rfl rfl (by kernel_rfl) ?_
  show At Go.Proofs.Try.prog Go.Proofs.Try.f66 0 0 ⟨[(0, .one (.agg [.d (.int .u64 k_0), .d (.int .u64 k_1)])), (1, .one (.agg [.d (.int .u16 s_0), .d (.int .u16 s_1), .d (.int .u32 s_2), .d (.int .u32 s_3), .d (.int .u8 s_4), .d (.sl (.pair (.int .u8) (.slice (.int .u8))) s_5), .d (.sl (.int .u8) s_6)])), (2, .one (.c (.d (.int .u8 kind)))), (3, .one (.c (.d (.sl (.int .u8) body))))], [], [], 0⟩ _
  refine At.step hm ht ⟨[], [], [], [2, 3, 4, 5], [0, 1]⟩ 1 ⟨[(2, .one (.c (.d (.int .u8 kind)))), (3, .one (.c (.d (.sl (.int .u8) body)))), (4, .one (.c (.ptr 0 0))), (5, .one (.c (.ptr 1 0)))], [], [(0, [.d (.int .u64 k_0), .d (.int .u64 k_1)]), (1, [.d (.int .u16 s_0), .d (.int .u16 s_1), .d (.int .u32 s_2), .d (.int .u32 s_3), .d (.int .u8 s_4), .d (.sl (.pair (.int .u8) (.slice (.int .u8))) s_5), .d (.sl (.int .u8) s_6)])], 2⟩ [] (by kernel_rfl) trivial ?_
  obtain ⟨r434_0, cr434_0, h⟩ := bindS h
  obtain ⟨r434_1, cr434_1, h⟩ := bindS h
  have h := Option.some.inj h
  subst h
  exact At.fin hm ht ⟨[(4, .call [] [] (f64_broughamref10_Cover_out r434_0)), (5, .call [] [] (f88_broughamref03_Sum_out r434_1))], [], [], [8], []⟩ [FnOK Go.Proofs.Try.prog 64 (f64_broughamref10_Cover_in s_0 s_1 s_2 s_3 s_4 s_5 s_6 kind body) (f64_broughamref10_Cover_out r434_0), FnOK Go.Proofs.Try.prog 88 (f88_broughamref03_Sum_in k_0 k_1 r434_0) (f88_broughamref03_Sum_out r434_1)] (by kernel_rfl) ⟨(f64_broughamref10_Cover_ok n s_0 s_1 s_2 s_3 s_4 s_5 s_6 kind body r434_0 cr434_0), (f88_broughamref03_Sum_ok n k_0 k_1 r434_0 r434_1 cr434_1), trivial⟩
/-! brougham/broughamref10.Open -/
def f59_broughamref10_Open_in (k_0 : Int) (k_1 : Int) (s_0 : Int) (s_1 : Int) (s_2 : Int) (s_3 : Int) (s_4 : Int) (s_5 : List (Int × List Int)) (s_6 : List Int) : Inn := ⟨[.agg [.d (.int .u64 k_0), .d (.int .u64 k_1)], .agg [.d (.int .u16 s_0), .d (.int .u16 s_1), .d (.int .u32 s_2), .d (.int .u32 s_3), .d (.int .u8 s_4), .d (.sl (.pair (.int .u8) (.slice (.int .u8))) s_5), .d (.sl (.int .u8) s_6)]], [], [], 0⟩
def f59_broughamref10_Open_out (r : Bool × Bool × Bool × Int × Int × Int × Int) : Out := ⟨.tup [.agg [.d (.bool r.2.1), .d (.bool r.2.2.1), .d (.int .u64 r.2.2.2.1), .d (.int .u64 r.2.2.2.2.1), .d (.int .u32 r.2.2.2.2.2.1), .d (.int .u64 r.2.2.2.2.2.2)], .c (.d (.bool r.1))], [], [(0, [.d (.bool r.2.1), .d (.bool r.2.2.1), .d (.int .u64 r.2.2.2.1), .d (.int .u64 r.2.2.2.2.1), .d (.int .u32 r.2.2.2.2.2.1), .d (.int .u64 r.2.2.2.2.2.2)])], 1⟩
def f59_broughamref10_Open (n : Nat) (k_0 : Int) (k_1 : Int) (s_0 : Int) (s_1 : Int) (s_2 : Int) (s_3 : Int) (s_4 : Int) (s_5 : List (Int × List Int)) (s_6 : List Int) : Option (Bool × Bool × Bool × Int × Int × Int × Int) :=
  (f17_broughamref08_One n s_0 s_1 s_2 s_3 s_4 s_5 s_6 3).bind fun r323_0 =>
  if (!r323_0.1) = true then
    some (false, false, false, 0, 0, 0, 0)
  else
    (f37_broughamref08_ParseData n r323_0.2.1 r323_0.2.2).bind fun r358_0 =>
    if (!r358_0.1) = true then
      some (false, false, false, 0, 0, 0, 0)
    else
      (f66_broughamref10_Tag n k_0 k_1 s_0 s_1 s_2 s_3 s_4 s_5 s_6 3 r323_0.2.2).bind fun r431_0 =>
      if ((r358_0.2.2.2.2.2.2 : Int) != r431_0) = true then
        some (false, false, false, 0, 0, 0, 0)
      else
        some (true, r358_0.2.1, r358_0.2.2.1, r358_0.2.2.2.1, r358_0.2.2.2.2.1, r358_0.2.2.2.2.2.1, r358_0.2.2.2.2.2.2)
theorem f59_broughamref10_Open_ok (n : Nat) (k_0 : Int) (k_1 : Int) (s_0 : Int) (s_1 : Int) (s_2 : Int) (s_3 : Int) (s_4 : Int) (s_5 : List (Int × List Int)) (s_6 : List Int) (r : Bool × Bool × Bool × Int × Int × Int × Int) (h : f59_broughamref10_Open n k_0 k_1 s_0 s_1 s_2 s_3 s_4 s_5 s_6 = some r) : FnOK Go.Proofs.Try.prog 59 (f59_broughamref10_Open_in k_0 k_1 s_0 s_1 s_2 s_3 s_4 s_5 s_6) (f59_broughamref10_Open_out r) := by
  unfold f59_broughamref10_Open at h
  refine At.fn (r := 0) Go.Proofs.Try.func59 rfl (by kernel_rfl) rfl rfl (by kernel_rfl) ?_
  show At Go.Proofs.Try.prog Go.Proofs.Try.f59 0 0 ⟨[(0, .one (.agg [.d (.int .u64 k_0), .d (.int .u64 k_1)])), (1, .one (.agg [.d (.int .u16 s_0), .d (.int .u16 s_1), .d (.int .u32 s_2), .d (.int .u32 s_3), .d (.int .u8 s_4), .d (.sl (.pair (.int .u8) (.slice (.int .u8))) s_5), .d (.sl (.int .u8) s_6)]))], [], [], 0⟩ _
  refine At.step hm ht ⟨[], [], [], [2, 3, 4], [0, 1, 2]⟩ 1 ⟨[(2, .one (.c (.ptr 0 0))), (3, .one (.c (.ptr 1 0))), (4, .one (.c (.ptr 2 0)))], [], [(0, [.d (.int .u64 k_0), .d (.int .u64 k_1)]), (1, [.d (.int .u16 s_0), .d (.int .u16 s_1), .d (.int .u32 s_2), .d (.int .u32 s_3), .d (.int .u8 s_4), .d (.sl (.pair (.int .u8) (.slice (.int .u8))) s_5), .d (.sl (.int .u8) s_6)]), (2, [.d (.bool false), .d (.bool false), .d (.int .u64 0), .d (.int .u64 0), .d (.int .u32 0), .d (.int .u64 0)])], 3⟩ [] (by kernel_rfl) trivial ?_
  obtain ⟨r323_0, cr323_0, h⟩ := bindS h
  refine At.step hm ht ⟨[(1, .call [] [] (f17_broughamref08_One_out r323_0))], [], [], [2, 3, 4, 6, 7], [0, 1, 2, 8]⟩ 2 ⟨[(2, .one (.c (.ptr 0 0))), (3, .one (.c (.ptr 1 0))), (4, .one (.c (.ptr 2 0))), (6, .one (.c (.ptr 3 0))), (7, .one (.c (.d (.bool r323_0.1))))], [], [(0, [.d (.int .u64 k_0), .d (.int .u64 k_1)]), (1, [.d (.int .u16 s_0), .d (.int .u16 s_1), .d (.int .u32 s_2), .d (.int .u32 s_3), .d (.int .u8 s_4), .d (.sl (.pair (.int .u8) (.slice (.int .u8))) s_5), .d (.sl (.int .u8) s_6)]), (2, [.d (.bool false), .d (.bool false), .d (.int .u64 0), .d (.int .u64 0), .d (.int .u32 0), .d (.int .u64 0)]), (3, [.d (.int .u8 r323_0.2.1), .d (.sl (.int .u8) r323_0.2.2)])], 4⟩ [FnOK Go.Proofs.Try.prog 17 (f17_broughamref08_One_in s_0 s_1 s_2 s_3 s_4 s_5 s_6 3) (f17_broughamref08_One_out r323_0), 0 + 2 ≤ 2] (by kernel_rfl) ⟨(f17_broughamref08_One_ok n s_0 s_1 s_2 s_3 s_4 s_5 s_6 3 r323_0 cr323_0), (by decide), trivial⟩ ?_
  rcases iteS h with ⟨b356_e0, h⟩ | ⟨b356_e0, h⟩
  · refine At.step hm ht ⟨[], [true], [], [4], [2]⟩ 3 ⟨[(4, .one (.c (.ptr 0 0)))], [], [(0, [.d (.bool false), .d (.bool false), .d (.int .u64 0), .d (.int .u64 0), .d (.int .u32 0), .d (.int .u64 0)])], 1⟩ [(!r323_0.1) = true] (by kernel_rfl) ⟨b356_e0, trivial⟩ ?_
    have h := Option.some.inj h
    subst h
    exact At.fin hm ht ⟨[], [], [], [4, 5], [0]⟩ [0 + 6 ≤ 6] (by kernel_rfl) ⟨(by decide), trivial⟩
  · refine At.step hm ht ⟨[], [false], [], [2, 3, 4, 6], [0, 1, 2, 3]⟩ 4 ⟨[(2, .one (.c (.ptr 0 0))), (3, .one (.c (.ptr 1 0))), (4, .one (.c (.ptr 2 0))), (6, .one (.c (.ptr 3 0)))], [], [(0, [.d (.int .u64 k_0), .d (.int .u64 k_1)]), (1, [.d (.int .u16 s_0), .d (.int .u16 s_1), .d (.int .u32 s_2), .d (.int .u32 s_3), .d (.int .u8 s_4), .d (.sl (.pair (.int .u8) (.slice (.int .u8))) s_5), .d (.sl (.int .u8) s_6)]), (2, [.d (.bool false), .d (.bool false), .d (.int .u64 0), .d (.int .u64 0), .d (.int .u32 0), .d (.int .u64 0)]), (3, [.d (.int .u8 r323_0.2.1), .d (.sl (.int .u8) r323_0.2.2)])], 4⟩ [(!r323_0.1) = false] (by kernel_rfl) ⟨b356_e0, trivial⟩ ?_
    obtain ⟨r358_0, cr358_0, h⟩ := bindS h
    refine At.step hm ht ⟨[(1, .call [] [] (f37_broughamref08_ParseData_out r358_0))], [], [], [2, 3, 4, 6, 8, 9], [0, 1, 2, 3, 9]⟩ 5 ⟨[(2, .one (.c (.ptr 0 0))), (3, .one (.c (.ptr 1 0))), (4, .one (.c (.ptr 2 0))), (6, .one (.c (.ptr 3 0))), (8, .one (.c (.ptr 4 0))), (9, .one (.c (.d (.bool r358_0.1))))], [], [(0, [.d (.int .u64 k_0), .d (.int .u64 k_1)]), (1, [.d (.int .u16 s_0), .d (.int .u16 s_1), .d (.int .u32 s_2), .d (.int .u32 s_3), .d (.int .u8 s_4), .d (.sl (.pair (.int .u8) (.slice (.int .u8))) s_5), .d (.sl (.int .u8) s_6)]), (2, [.d (.bool false), .d (.bool false), .d (.int .u64 0), .d (.int .u64 0), .d (.int .u32 0), .d (.int .u64 0)]), (3, [.d (.int .u8 r323_0.2.1), .d (.sl (.int .u8) r323_0.2.2)]), (4, [.d (.bool r358_0.2.1), .d (.bool r358_0.2.2.1), .d (.int .u64 r358_0.2.2.2.1), .d (.int .u64 r358_0.2.2.2.2.1), .d (.int .u32 r358_0.2.2.2.2.2.1), .d (.int .u64 r358_0.2.2.2.2.2.2)])], 5⟩ [FnOK Go.Proofs.Try.prog 37 (f37_broughamref08_ParseData_in r323_0.2.1 r323_0.2.2) (f37_broughamref08_ParseData_out r358_0), 0 + 6 ≤ 6] (by kernel_rfl) ⟨(f37_broughamref08_ParseData_ok n r323_0.2.1 r323_0.2.2 r358_0 cr358_0), (by decide), trivial⟩ ?_
    rcases iteS h with ⟨b431_2, h⟩ | ⟨b431_2, h⟩
    · refine At.step hm ht ⟨[(2, .b true)], [true], [], [4], [2]⟩ 6 ⟨[(4, .one (.c (.ptr 0 0)))], [], [(0, [.d (.bool false), .d (.bool false), .d (.int .u64 0), .d (.int .u64 0), .d (.int .u32 0), .d (.int .u64 0)])], 1⟩ [(!r358_0.1) = true, true = true] (by kernel_rfl) ⟨b431_2, rfl, trivial⟩ ?_
      have h := Option.some.inj h
      subst h
      exact At.fin hm ht ⟨[], [], [], [4, 5], [0]⟩ [0 + 6 ≤ 6] (by kernel_rfl) ⟨(by decide), trivial⟩
    · obtain ⟨r431_0, cr431_0, h⟩ := bindS h
      rcases iteS h with ⟨b431_e0, h⟩ | ⟨b431_e0, h⟩
      · refine At.step hm ht ⟨[(2, .b false), (9, .call [] [] (f66_broughamref10_Tag_out r431_0))], [true], [], [4], [2]⟩ 6 ⟨[(4, .one (.c (.ptr 0 0)))], [], [(0, [.d (.bool false), .d (.bool false), .d (.int .u64 0), .d (.int .u64 0), .d (.int .u32 0), .d (.int .u64 0)])], 1⟩ [(!r358_0.1) = false, FnOK Go.Proofs.Try.prog 66 (f66_broughamref10_Tag_in k_0 k_1 s_0 s_1 s_2 s_3 s_4 s_5 s_6 3 r323_0.2.2) (f66_broughamref10_Tag_out r431_0), ((r358_0.2.2.2.2.2.2 : Int) != r431_0) = true] (by kernel_rfl) ⟨b431_2, (f66_broughamref10_Tag_ok n k_0 k_1 s_0 s_1 s_2 s_3 s_4 s_5 s_6 3 r323_0.2.2 r431_0 cr431_0), b431_e0, trivial⟩ ?_
        have h := Option.some.inj h
        subst h
        exact At.fin hm ht ⟨[], [], [], [4, 5], [0]⟩ [0 + 6 ≤ 6] (by kernel_rfl) ⟨(by decide), trivial⟩
      · refine At.step hm ht ⟨[(2, .b false), (9, .call [] [] (f66_broughamref10_Tag_out r431_0))], [false], [], [4, 8], [2, 4]⟩ 7 ⟨[(4, .one (.c (.ptr 0 0))), (8, .one (.c (.ptr 1 0)))], [], [(0, [.d (.bool false), .d (.bool false), .d (.int .u64 0), .d (.int .u64 0), .d (.int .u32 0), .d (.int .u64 0)]), (1, [.d (.bool r358_0.2.1), .d (.bool r358_0.2.2.1), .d (.int .u64 r358_0.2.2.2.1), .d (.int .u64 r358_0.2.2.2.2.1), .d (.int .u32 r358_0.2.2.2.2.2.1), .d (.int .u64 r358_0.2.2.2.2.2.2)])], 2⟩ [(!r358_0.1) = false, FnOK Go.Proofs.Try.prog 66 (f66_broughamref10_Tag_in k_0 k_1 s_0 s_1 s_2 s_3 s_4 s_5 s_6 3 r323_0.2.2) (f66_broughamref10_Tag_out r431_0), ((r358_0.2.2.2.2.2.2 : Int) != r431_0) = false] (by kernel_rfl) ⟨b431_2, (f66_broughamref10_Tag_ok n k_0 k_1 s_0 s_1 s_2 s_3 s_4 s_5 s_6 3 r323_0.2.2 r431_0 cr431_0), b431_e0, trivial⟩ ?_
        have h := Option.some.inj h
        subst h
        exact At.fin hm ht ⟨[], [], [], [4, 5], [0]⟩ [0 + 6 ≤ 6] (by kernel_rfl) ⟨(by decide), trivial⟩
/-! brougham/opt.ParseWord -/
def f38_opt_ParseWord_in (o__0 : Int) (o__1 : List Int) : Inn := ⟨[.agg [.d (.int .u8 o__0), .d (.sl (.int .u8) o__1)]], [], [], 0⟩
def f38_opt_ParseWord_out (r : Bool × Int × Int × Int × Int × Bool × Int) : Out := ⟨.tup [.agg [.d (.int .u8 r.2.1), .d (.int .u32 r.2.2.1), .d (.int .u8 r.2.2.2.1), .d (.int .u8 r.2.2.2.2.1), .d (.bool r.2.2.2.2.2.1), .d (.int .u64 r.2.2.2.2.2.2)], .c (.d (.bool r.1))], [], [(0, [.d (.int .u8 r.2.1), .d (.int .u32 r.2.2.1), .d (.int .u8 r.2.2.2.1), .d (.int .u8 r.2.2.2.2.1), .d (.bool r.2.2.2.2.2.1), .d (.int .u64 r.2.2.2.2.2.2)])], 1⟩
def f38_opt_ParseWord (n : Nat) (o__0 : Int) (o__1 : List Int) : Option (Bool × Int × Int × Int × Int × Bool × Int) :=
  (f81_pack_All n o__1 [4, 1, 1, 1, 8]).bind fun r540_0 =>
  if (decide ((o__0 : Int) < 4)) = true then
    some (false, 0, 0, 0, 0, false, 0)
  else
    if (decide ((o__0 : Int) > 7)) = true then
      some (false, 0, 0, 0, 0, false, 0)
    else
      if (!r540_0.2) = true then
        some (false, 0, 0, 0, 0, false, 0)
      else
        if (0 : Int) ≤ 3 ∧ 3 < (((r540_0.1).length : Nat) : Int) then
        if (decide (((r540_0.1.getD 3 0) : Int) > 1)) = true then
          some (false, 0, 0, 0, 0, false, 0)
        else
          if (0 : Int) ≤ 0 ∧ 0 < (((r540_0.1).length : Nat) : Int) then
          if (0 : Int) ≤ 1 ∧ 1 < (((r540_0.1).length : Nat) : Int) then
          if (0 : Int) ≤ 2 ∧ 2 < (((r540_0.1).length : Nat) : Int) then
          if (0 : Int) ≤ 3 ∧ 3 < (((r540_0.1).length : Nat) : Int) then
          if (0 : Int) ≤ 4 ∧ 4 < (((r540_0.1).length : Nat) : Int) then
          some (true, o__0, (IntKind.wrap .u32 (r540_0.1.getD 0 0)), (IntKind.wrap .u8 (r540_0.1.getD 1 0)), (IntKind.wrap .u8 (r540_0.1.getD 2 0)), (((r540_0.1.getD 3 0) : Int) == 1), (r540_0.1.getD 4 0))
          else none
          else none
          else none
          else none
          else none
        else none
theorem f38_opt_ParseWord_ok (n : Nat) (o__0 : Int) (o__1 : List Int) (r : Bool × Int × Int × Int × Int × Bool × Int) (h : f38_opt_ParseWord n o__0 o__1 = some r) : FnOK Go.Proofs.Try.prog 38 (f38_opt_ParseWord_in o__0 o__1) (f38_opt_ParseWord_out r) := by
  unfold f38_opt_ParseWord at h
  refine At.fn (r := 0) Go.Proofs.Try.func38 rfl (by kernel_rfl) rfl rfl (by kernel_rfl) ?_
  show At Go.Proofs.Try.prog Go.Proofs.Try.f38 0 0 ⟨[(0, .one (.agg [.d (.int .u8 o__0), .d (.sl (.int .u8) o__1)]))], [], [], 0⟩ _
  refine At.step hm ht ⟨[], [], [], [1, 2], [0, 1]⟩ 1 ⟨[(1, .one (.c (.ptr 0 0))), (2, .one (.c (.ptr 1 0)))], [], [(0, [.d (.int .u8 o__0), .d (.sl (.int .u8) o__1)]), (1, [.d (.int .u8 0), .d (.int .u32 0), .d (.int .u8 0), .d (.int .u8 0), .d (.bool false), .d (.int .u64 0)])], 2⟩ [] (by kernel_rfl) trivial ?_
  obtain ⟨r540_0, cr540_0, h⟩ := bindS h
  refine At.step hm ht ⟨[(3, .call [] [] (f81_pack_All_out r540_0))], [], [], [1, 2, 4, 5], [0, 1, 5]⟩ 2 ⟨[(1, .one (.c (.ptr 0 0))), (2, .one (.c (.ptr 1 0))), (4, .one (.c (.own 2 (.int .u64) r540_0.1))), (5, .one (.c (.d (.bool r540_0.2))))], [(2, some ⟨36, 0⟩)], [(0, [.d (.int .u8 o__0), .d (.sl (.int .u8) o__1)]), (1, [.d (.int .u8 0), .d (.int .u32 0), .d (.int .u8 0), .d (.int .u8 0), .d (.bool false), .d (.int .u64 0)])], 3⟩ [FnOK Go.Proofs.Try.prog 81 (f81_pack_All_in o__1 [4, 1, 1, 1, 8]) (f81_pack_All_out r540_0)] (by kernel_rfl) ⟨(f81_pack_All_ok n o__1 [4, 1, 1, 1, 8] r540_0 cr540_0), trivial⟩ ?_
  rcases iteS h with ⟨b541_3, h⟩ | ⟨b541_3, h⟩
  · refine At.step hm ht ⟨[(3, .b true)], [true], [], [2], [1]⟩ 3 ⟨[(2, .one (.c (.ptr 0 0)))], [], [(0, [.d (.int .u8 0), .d (.int .u32 0), .d (.int .u8 0), .d (.int .u8 0), .d (.bool false), .d (.int .u64 0)])], 1⟩ [(decide ((o__0 : Int) < 4)) = true, true = true] (by kernel_rfl) ⟨b541_3, rfl, trivial⟩ ?_
    have h := Option.some.inj h
    subst h
    exact At.fin hm ht ⟨[], [], [], [2, 3], [0]⟩ [0 + 6 ≤ 6] (by kernel_rfl) ⟨(by decide), trivial⟩
  · rcases iteS h with ⟨b541_8, h⟩ | ⟨b541_8, h⟩
    · refine At.step hm ht ⟨[(3, .b false), (8, .b true)], [true], [], [2], [1]⟩ 3 ⟨[(2, .one (.c (.ptr 0 0)))], [], [(0, [.d (.int .u8 0), .d (.int .u32 0), .d (.int .u8 0), .d (.int .u8 0), .d (.bool false), .d (.int .u64 0)])], 1⟩ [(decide ((o__0 : Int) < 4)) = false, (decide ((o__0 : Int) > 7)) = true, true = true] (by kernel_rfl) ⟨b541_3, b541_8, rfl, trivial⟩ ?_
      have h := Option.some.inj h
      subst h
      exact At.fin hm ht ⟨[], [], [], [2, 3], [0]⟩ [0 + 6 ≤ 6] (by kernel_rfl) ⟨(by decide), trivial⟩
    · rcases iteS h with ⟨b541_12, h⟩ | ⟨b541_12, h⟩
      · refine At.step hm ht ⟨[(3, .b false), (8, .b false), (12, .b true)], [true], [], [2], [1]⟩ 3 ⟨[(2, .one (.c (.ptr 0 0)))], [], [(0, [.d (.int .u8 0), .d (.int .u32 0), .d (.int .u8 0), .d (.int .u8 0), .d (.bool false), .d (.int .u64 0)])], 1⟩ [(decide ((o__0 : Int) < 4)) = false, (decide ((o__0 : Int) > 7)) = false, (!r540_0.2) = true, true = true] (by kernel_rfl) ⟨b541_3, b541_8, b541_12, rfl, trivial⟩ ?_
        have h := Option.some.inj h
        subst h
        exact At.fin hm ht ⟨[], [], [], [2, 3], [0]⟩ [0 + 6 ≤ 6] (by kernel_rfl) ⟨(by decide), trivial⟩
      · obtain ⟨g541_0, h⟩ := ifS h
        rcases iteS h with ⟨b541_e0, h⟩ | ⟨b541_e0, h⟩
        · refine At.step hm ht ⟨[(3, .b false), (8, .b false), (12, .b false)], [true], [], [2], [1]⟩ 3 ⟨[(2, .one (.c (.ptr 0 0)))], [], [(0, [.d (.int .u8 0), .d (.int .u32 0), .d (.int .u8 0), .d (.int .u8 0), .d (.bool false), .d (.int .u64 0)])], 1⟩ [(decide ((o__0 : Int) < 4)) = false, (decide ((o__0 : Int) > 7)) = false, (!r540_0.2) = false, (0 : Int) ≤ 3 ∧ 3 < (((r540_0.1).length : Nat) : Int), (decide (((r540_0.1.getD 3 0) : Int) > 1)) = true] (by kernel_rfl) ⟨b541_3, b541_8, b541_12, g541_0, b541_e0, trivial⟩ ?_
          have h := Option.some.inj h
          subst h
          exact At.fin hm ht ⟨[], [], [], [2, 3], [0]⟩ [0 + 6 ≤ 6] (by kernel_rfl) ⟨(by decide), trivial⟩
        · refine At.step hm ht ⟨[(3, .b false), (8, .b false), (12, .b false)], [false], [], [1, 2, 4], [0, 1, 2]⟩ 4 ⟨[(1, .one (.c (.ptr 0 0))), (2, .one (.c (.ptr 1 0))), (4, .one (.c (.own 2 (.int .u64) r540_0.1)))], [(2, some ⟨36, 0⟩)], [(0, [.d (.int .u8 o__0), .d (.sl (.int .u8) o__1)]), (1, [.d (.int .u8 0), .d (.int .u32 0), .d (.int .u8 0), .d (.int .u8 0), .d (.bool false), .d (.int .u64 0)])], 3⟩ [(decide ((o__0 : Int) < 4)) = false, (decide ((o__0 : Int) > 7)) = false, (!r540_0.2) = false, (0 : Int) ≤ 3 ∧ 3 < (((r540_0.1).length : Nat) : Int), (decide (((r540_0.1.getD 3 0) : Int) > 1)) = false] (by kernel_rfl) ⟨b541_3, b541_8, b541_12, g541_0, b541_e0, trivial⟩ ?_
          obtain ⟨g546_0, h⟩ := ifS h
          obtain ⟨g546_1, h⟩ := ifS h
          obtain ⟨g546_2, h⟩ := ifS h
          obtain ⟨g546_3, h⟩ := ifS h
          obtain ⟨g546_4, h⟩ := ifS h
          have h := Option.some.inj h
          subst h
          exact At.fin hm ht ⟨[], [], [], [2, 3], [1]⟩ [(0 : Int) ≤ 0 ∧ 0 < (((r540_0.1).length : Nat) : Int), (0 : Int) ≤ 1 ∧ 1 < (((r540_0.1).length : Nat) : Int), (0 : Int) ≤ 2 ∧ 2 < (((r540_0.1).length : Nat) : Int), (0 : Int) ≤ 3 ∧ 3 < (((r540_0.1).length : Nat) : Int), (0 : Int) ≤ 4 ∧ 4 < (((r540_0.1).length : Nat) : Int), 0 + 6 ≤ 6] (by kernel_rfl) ⟨g546_0, g546_1, g546_2, g546_3, g546_4, (by decide), trivial⟩
/-! brougham/mac.Words -/
def f60_mac_Words_in (k_0 : Int) (k_1 : Int) (s_0 : Int) (s_1 : Int) (s_2 : Int) (s_3 : Int) (s_4 : Int) (s_5 : List (Int × List Int)) (s_6 : List Int) : Inn := ⟨[.agg [.d (.int .u64 k_0), .d (.int .u64 k_1)], .agg [.d (.int .u16 s_0), .d (.int .u16 s_1), .d (.int .u32 s_2), .d (.int .u32 s_3), .d (.int .u8 s_4), .d (.sl (.pair (.int .u8) (.slice (.int .u8))) s_5), .d (.sl (.int .u8) s_6)]], [], [], 0⟩
def f60_mac_Words_out (r : List (Int × Int × Int × Int × Bool × Int)) : Out := ⟨.one (.c (.own 0 (.pair (.int .u8) (.pair (.int .u32) (.pair (.int .u8) (.pair (.int .u8) (.pair .bool (.int .u64)))))) r)), [(0, ⟨46, 0⟩)], [], 1⟩
def f60_mac_Words_L3 : Nat → (List (Int × Int × Int × Int × Bool × Int)) → (List (Int × List Int)) → Int → Int → Int → Int → Int → Int → Int → Int → Int → (List (Int × List Int)) → (List Int) → Option (List (Int × Int × Int × Int × Bool × Int))
  | 0, _, _, _, _, _, _, _, _, _, _, _, _, _ => none
  | n + 1, out, t11, t12, t13, k_0, k_1, s_0, s_1, s_2, s_3, s_4, s_5, s_6 =>
    if (decide ((t13 : Int) < t12)) = true then
      if (0 : Int) ≤ t13 ∧ t13 < (((t11).length : Nat) : Int) then
      (f38_opt_ParseWord n ((t11.getD t13.toNat (0, [])).1) ((t11.getD t13.toNat (0, [])).2)).bind fun r555_0 =>
      if r555_0.1 = true then
        (f67_mac_Right n k_0 k_1 s_0 s_1 s_2 s_3 s_4 s_5 s_6 ((t11.getD t13.toNat (0, [])).1) ((t11.getD t13.toNat (0, [])).2) r555_0.2.2.2.2.2.2).bind fun r556_0 =>
        if r556_0 = true then
          if out.length + [r555_0.2].length ≤ maxLen ∧ (out.length + [r555_0.2].length) * 24 ≤ 140737488355328 then
          f60_mac_Words_L3 n (out ++ [r555_0.2]) t11 t12 (IntKind.wrap .i64 (t13 + 1)) k_0 k_1 s_0 s_1 s_2 s_3 s_4 s_5 s_6
          else none
        else
          f60_mac_Words_L3 n out t11 t12 (IntKind.wrap .i64 (t13 + 1)) k_0 k_1 s_0 s_1 s_2 s_3 s_4 s_5 s_6
      else
        f60_mac_Words_L3 n out t11 t12 (IntKind.wrap .i64 (t13 + 1)) k_0 k_1 s_0 s_1 s_2 s_3 s_4 s_5 s_6
      else none
    else
      some (out)
def f60_mac_Words_L3_k (e : List (Int × Int × Int × Int × Bool × Int)) (o : Out) : Prop := At Go.Proofs.Try.prog Go.Proofs.Try.f60 0 9 ⟨[(5, .one (.c (.own 0 (.pair (.int .u8) (.pair (.int .u32) (.pair (.int .u8) (.pair (.int .u8) (.pair .bool (.int .u64)))))) e)))], [(0, some ⟨46, 0⟩)], [], 1⟩ o
theorem f60_mac_Words_L3_ok (n : Nat) : ∀ (out : List (Int × Int × Int × Int × Bool × Int)) (t11 : List (Int × List Int)) (t12 : Int) (t13 : Int) (k_0 : Int) (k_1 : Int) (s_0 : Int) (s_1 : Int) (s_2 : Int) (s_3 : Int) (s_4 : Int) (s_5 : List (Int × List Int)) (s_6 : List Int) (w : List (Int × Int × Int × Int × Bool × Int)) (h : f60_mac_Words_L3 n out t11 t12 t13 k_0 k_1 s_0 s_1 s_2 s_3 s_4 s_5 s_6 = some w) (o : Out) (hk : f60_mac_Words_L3_k w o), At Go.Proofs.Try.prog Go.Proofs.Try.f60 0 3 ⟨[(2, .one (.c (.ptr 0 0))), (3, .one (.c (.ptr 1 0))), (5, .one (.c (.own 2 (.pair (.int .u8) (.pair (.int .u32) (.pair (.int .u8) (.pair (.int .u8) (.pair .bool (.int .u64)))))) out))), (11, .one (.c (.d (.sl (.pair (.int .u8) (.slice (.int .u8))) t11)))), (12, .one (.c (.d (.int .i64 t12)))), (13, .one (.c (.d (.int .i64 t13))))], [(2, some ⟨46, 0⟩)], [(0, [.d (.int .u64 k_0), .d (.int .u64 k_1)]), (1, [.d (.int .u16 s_0), .d (.int .u16 s_1), .d (.int .u32 s_2), .d (.int .u32 s_3), .d (.int .u8 s_4), .d (.sl (.pair (.int .u8) (.slice (.int .u8))) s_5), .d (.sl (.int .u8) s_6)])], 3⟩ o := by
  induction n with
  | zero => intro out t11 t12 t13 k_0 k_1 s_0 s_1 s_2 s_3 s_4 s_5 s_6 w h; rw [f60_mac_Words_L3] at h; cases h
  | succ n ih =>
    intro out t11 t12 t13 k_0 k_1 s_0 s_1 s_2 s_3 s_4 s_5 s_6 w h o hk
    rw [f60_mac_Words_L3] at h
    rcases iteS h with ⟨b553_e0, h⟩ | ⟨b553_e0, h⟩
    · refine At.step hm ht ⟨[], [true], [], [2, 3, 5, 11, 12, 13], [0, 1, 2]⟩ 4 ⟨[(2, .one (.c (.ptr 0 0))), (3, .one (.c (.ptr 1 0))), (5, .one (.c (.own 2 (.pair (.int .u8) (.pair (.int .u32) (.pair (.int .u8) (.pair (.int .u8) (.pair .bool (.int .u64)))))) out))), (11, .one (.c (.d (.sl (.pair (.int .u8) (.slice (.int .u8))) t11)))), (12, .one (.c (.d (.int .i64 t12)))), (13, .one (.c (.d (.int .i64 t13))))], [(2, some ⟨46, 0⟩)], [(0, [.d (.int .u64 k_0), .d (.int .u64 k_1)]), (1, [.d (.int .u16 s_0), .d (.int .u16 s_1), .d (.int .u32 s_2), .d (.int .u32 s_3), .d (.int .u8 s_4), .d (.sl (.pair (.int .u8) (.slice (.int .u8))) s_5), .d (.sl (.int .u8) s_6)])], 3⟩ [(decide ((t13 : Int) < t12)) = true] (by kernel_rfl) ⟨b553_e0, trivial⟩ ?_
      obtain ⟨g554_0, h⟩ := ifS h
      refine At.step hm ht ⟨[], [], [], [2, 3, 5, 7, 11, 12, 13], [0, 1, 2, 5]⟩ 5 ⟨[(2, .one (.c (.ptr 0 0))), (3, .one (.c (.ptr 1 0))), (5, .one (.c (.own 2 (.pair (.int .u8) (.pair (.int .u32) (.pair (.int .u8) (.pair (.int .u8) (.pair .bool (.int .u64)))))) out))), (7, .one (.c (.ptr 3 0))), (11, .one (.c (.d (.sl (.pair (.int .u8) (.slice (.int .u8))) t11)))), (12, .one (.c (.d (.int .i64 t12)))), (13, .one (.c (.d (.int .i64 t13))))], [(2, some ⟨46, 0⟩)], [(0, [.d (.int .u64 k_0), .d (.int .u64 k_1)]), (1, [.d (.int .u16 s_0), .d (.int .u16 s_1), .d (.int .u32 s_2), .d (.int .u32 s_3), .d (.int .u8 s_4), .d (.sl (.pair (.int .u8) (.slice (.int .u8))) s_5), .d (.sl (.int .u8) s_6)]), (3, [.d (.int .u8 ((t11.getD t13.toNat (0, [])).1)), .d (.sl (.int .u8) ((t11.getD t13.toNat (0, [])).2))])], 4⟩ [(0 : Int) ≤ t13 ∧ t13 < (((t11).length : Nat) : Int), 0 + 2 ≤ 2] (by kernel_rfl) ⟨g554_0, (by decide), trivial⟩ ?_
      obtain ⟨r555_0, cr555_0, h⟩ := bindS h
      refine At.step hm ht ⟨[(1, .call [] [] (f38_opt_ParseWord_out r555_0))], [], [], [2, 3, 5, 7, 8, 9, 11, 12, 13], [0, 1, 2, 3, 9]⟩ 6 ⟨[(2, .one (.c (.ptr 0 0))), (3, .one (.c (.ptr 1 0))), (5, .one (.c (.own 2 (.pair (.int .u8) (.pair (.int .u32) (.pair (.int .u8) (.pair (.int .u8) (.pair .bool (.int .u64)))))) out))), (7, .one (.c (.ptr 3 0))), (8, .one (.c (.ptr 4 0))), (9, .one (.c (.d (.bool r555_0.1)))), (11, .one (.c (.d (.sl (.pair (.int .u8) (.slice (.int .u8))) t11)))), (12, .one (.c (.d (.int .i64 t12)))), (13, .one (.c (.d (.int .i64 t13))))], [(2, some ⟨46, 0⟩)], [(0, [.d (.int .u64 k_0), .d (.int .u64 k_1)]), (1, [.d (.int .u16 s_0), .d (.int .u16 s_1), .d (.int .u32 s_2), .d (.int .u32 s_3), .d (.int .u8 s_4), .d (.sl (.pair (.int .u8) (.slice (.int .u8))) s_5), .d (.sl (.int .u8) s_6)]), (3, [.d (.int .u8 ((t11.getD t13.toNat (0, [])).1)), .d (.sl (.int .u8) ((t11.getD t13.toNat (0, [])).2))]), (4, [.d (.int .u8 r555_0.2.1), .d (.int .u32 r555_0.2.2.1), .d (.int .u8 r555_0.2.2.2.1), .d (.int .u8 r555_0.2.2.2.2.1), .d (.bool r555_0.2.2.2.2.2.1), .d (.int .u64 r555_0.2.2.2.2.2.2)])], 5⟩ [FnOK Go.Proofs.Try.prog 38 (f38_opt_ParseWord_in ((t11.getD t13.toNat (0, [])).1) ((t11.getD t13.toNat (0, [])).2)) (f38_opt_ParseWord_out r555_0), 0 + 6 ≤ 6] (by kernel_rfl) ⟨(f38_opt_ParseWord_ok n ((t11.getD t13.toNat (0, [])).1) ((t11.getD t13.toNat (0, [])).2) r555_0 cr555_0), (by decide), trivial⟩ ?_
      rcases iteS h with ⟨b556_1, h⟩ | ⟨b556_1, h⟩
      · obtain ⟨r556_0, cr556_0, h⟩ := bindS h
        rcases iteS h with ⟨b556_e0, h⟩ | ⟨b556_e0, h⟩
        · refine At.step hm ht ⟨[(1, .b true), (8, .call [] [] (f67_mac_Right_out r556_0))], [true], [], [2, 3, 5, 8, 11, 12, 13], [0, 1, 2, 4]⟩ 7 ⟨[(2, .one (.c (.ptr 0 0))), (3, .one (.c (.ptr 1 0))), (5, .one (.c (.own 2 (.pair (.int .u8) (.pair (.int .u32) (.pair (.int .u8) (.pair (.int .u8) (.pair .bool (.int .u64)))))) out))), (8, .one (.c (.ptr 3 0))), (11, .one (.c (.d (.sl (.pair (.int .u8) (.slice (.int .u8))) t11)))), (12, .one (.c (.d (.int .i64 t12)))), (13, .one (.c (.d (.int .i64 t13))))], [(2, some ⟨46, 0⟩)], [(0, [.d (.int .u64 k_0), .d (.int .u64 k_1)]), (1, [.d (.int .u16 s_0), .d (.int .u16 s_1), .d (.int .u32 s_2), .d (.int .u32 s_3), .d (.int .u8 s_4), .d (.sl (.pair (.int .u8) (.slice (.int .u8))) s_5), .d (.sl (.int .u8) s_6)]), (3, [.d (.int .u8 r555_0.2.1), .d (.int .u32 r555_0.2.2.1), .d (.int .u8 r555_0.2.2.2.1), .d (.int .u8 r555_0.2.2.2.2.1), .d (.bool r555_0.2.2.2.2.2.1), .d (.int .u64 r555_0.2.2.2.2.2.2)])], 4⟩ [r555_0.1 = true, FnOK Go.Proofs.Try.prog 67 (f67_mac_Right_in k_0 k_1 s_0 s_1 s_2 s_3 s_4 s_5 s_6 ((t11.getD t13.toNat (0, [])).1) ((t11.getD t13.toNat (0, [])).2) r555_0.2.2.2.2.2.2) (f67_mac_Right_out r556_0), r556_0 = true] (by kernel_rfl) ⟨b556_1, (f67_mac_Right_ok n k_0 k_1 s_0 s_1 s_2 s_3 s_4 s_5 s_6 ((t11.getD t13.toNat (0, [])).1) ((t11.getD t13.toNat (0, [])).2) r555_0.2.2.2.2.2.2 r556_0 cr556_0), b556_e0, trivial⟩ ?_
          obtain ⟨g557_0, h⟩ := ifS h
          refine At.step hm ht ⟨[], [], [], [2, 3, 5, 11, 12, 13], [0, 1, 7]⟩ 8 ⟨[(2, .one (.c (.ptr 0 0))), (3, .one (.c (.ptr 1 0))), (5, .one (.c (.own 2 (.pair (.int .u8) (.pair (.int .u32) (.pair (.int .u8) (.pair (.int .u8) (.pair .bool (.int .u64)))))) (out ++ [r555_0.2])))), (11, .one (.c (.d (.sl (.pair (.int .u8) (.slice (.int .u8))) t11)))), (12, .one (.c (.d (.int .i64 t12)))), (13, .one (.c (.d (.int .i64 t13))))], [(2, some ⟨46, 0⟩)], [(0, [.d (.int .u64 k_0), .d (.int .u64 k_1)]), (1, [.d (.int .u16 s_0), .d (.int .u16 s_1), .d (.int .u32 s_2), .d (.int .u32 s_3), .d (.int .u8 s_4), .d (.sl (.pair (.int .u8) (.slice (.int .u8))) s_5), .d (.sl (.int .u8) s_6)])], 3⟩ [out.length + [r555_0.2].length ≤ maxLen ∧ (out.length + [r555_0.2].length) * 24 ≤ 140737488355328] (by kernel_rfl) ⟨g557_0, trivial⟩ ?_
          refine At.step hm ht ⟨[], [], [], [2, 3, 5, 11, 12, 13], [0, 1, 2]⟩ 3 ⟨[(2, .one (.c (.ptr 0 0))), (3, .one (.c (.ptr 1 0))), (5, .one (.c (.own 2 (.pair (.int .u8) (.pair (.int .u32) (.pair (.int .u8) (.pair (.int .u8) (.pair .bool (.int .u64)))))) (out ++ [r555_0.2])))), (11, .one (.c (.d (.sl (.pair (.int .u8) (.slice (.int .u8))) t11)))), (12, .one (.c (.d (.int .i64 t12)))), (13, .one (.c (.d (.int .i64 (IntKind.wrap .i64 (t13 + 1))))))], [(2, some ⟨46, 0⟩)], [(0, [.d (.int .u64 k_0), .d (.int .u64 k_1)]), (1, [.d (.int .u16 s_0), .d (.int .u16 s_1), .d (.int .u32 s_2), .d (.int .u32 s_3), .d (.int .u8 s_4), .d (.sl (.pair (.int .u8) (.slice (.int .u8))) s_5), .d (.sl (.int .u8) s_6)])], 3⟩ [] (by kernel_rfl) trivial ?_
          exact ih (out ++ [r555_0.2]) t11 t12 (IntKind.wrap .i64 (t13 + 1)) k_0 k_1 s_0 s_1 s_2 s_3 s_4 s_5 s_6 w h o hk
        · refine At.step hm ht ⟨[(1, .b true), (8, .call [] [] (f67_mac_Right_out r556_0))], [false], [], [2, 3, 5, 11, 12, 13], [0, 1, 2]⟩ 8 ⟨[(2, .one (.c (.ptr 0 0))), (3, .one (.c (.ptr 1 0))), (5, .one (.c (.own 2 (.pair (.int .u8) (.pair (.int .u32) (.pair (.int .u8) (.pair (.int .u8) (.pair .bool (.int .u64)))))) out))), (11, .one (.c (.d (.sl (.pair (.int .u8) (.slice (.int .u8))) t11)))), (12, .one (.c (.d (.int .i64 t12)))), (13, .one (.c (.d (.int .i64 t13))))], [(2, some ⟨46, 0⟩)], [(0, [.d (.int .u64 k_0), .d (.int .u64 k_1)]), (1, [.d (.int .u16 s_0), .d (.int .u16 s_1), .d (.int .u32 s_2), .d (.int .u32 s_3), .d (.int .u8 s_4), .d (.sl (.pair (.int .u8) (.slice (.int .u8))) s_5), .d (.sl (.int .u8) s_6)])], 3⟩ [r555_0.1 = true, FnOK Go.Proofs.Try.prog 67 (f67_mac_Right_in k_0 k_1 s_0 s_1 s_2 s_3 s_4 s_5 s_6 ((t11.getD t13.toNat (0, [])).1) ((t11.getD t13.toNat (0, [])).2) r555_0.2.2.2.2.2.2) (f67_mac_Right_out r556_0), r556_0 = false] (by kernel_rfl) ⟨b556_1, (f67_mac_Right_ok n k_0 k_1 s_0 s_1 s_2 s_3 s_4 s_5 s_6 ((t11.getD t13.toNat (0, [])).1) ((t11.getD t13.toNat (0, [])).2) r555_0.2.2.2.2.2.2 r556_0 cr556_0), b556_e0, trivial⟩ ?_
          refine At.step hm ht ⟨[], [], [], [2, 3, 5, 11, 12, 13], [0, 1, 2]⟩ 3 ⟨[(2, .one (.c (.ptr 0 0))), (3, .one (.c (.ptr 1 0))), (5, .one (.c (.own 2 (.pair (.int .u8) (.pair (.int .u32) (.pair (.int .u8) (.pair (.int .u8) (.pair .bool (.int .u64)))))) out))), (11, .one (.c (.d (.sl (.pair (.int .u8) (.slice (.int .u8))) t11)))), (12, .one (.c (.d (.int .i64 t12)))), (13, .one (.c (.d (.int .i64 (IntKind.wrap .i64 (t13 + 1))))))], [(2, some ⟨46, 0⟩)], [(0, [.d (.int .u64 k_0), .d (.int .u64 k_1)]), (1, [.d (.int .u16 s_0), .d (.int .u16 s_1), .d (.int .u32 s_2), .d (.int .u32 s_3), .d (.int .u8 s_4), .d (.sl (.pair (.int .u8) (.slice (.int .u8))) s_5), .d (.sl (.int .u8) s_6)])], 3⟩ [] (by kernel_rfl) trivial ?_
          exact ih out t11 t12 (IntKind.wrap .i64 (t13 + 1)) k_0 k_1 s_0 s_1 s_2 s_3 s_4 s_5 s_6 w h o hk
      · refine At.step hm ht ⟨[(1, .b false)], [false], [], [2, 3, 5, 11, 12, 13], [0, 1, 2]⟩ 8 ⟨[(2, .one (.c (.ptr 0 0))), (3, .one (.c (.ptr 1 0))), (5, .one (.c (.own 2 (.pair (.int .u8) (.pair (.int .u32) (.pair (.int .u8) (.pair (.int .u8) (.pair .bool (.int .u64)))))) out))), (11, .one (.c (.d (.sl (.pair (.int .u8) (.slice (.int .u8))) t11)))), (12, .one (.c (.d (.int .i64 t12)))), (13, .one (.c (.d (.int .i64 t13))))], [(2, some ⟨46, 0⟩)], [(0, [.d (.int .u64 k_0), .d (.int .u64 k_1)]), (1, [.d (.int .u16 s_0), .d (.int .u16 s_1), .d (.int .u32 s_2), .d (.int .u32 s_3), .d (.int .u8 s_4), .d (.sl (.pair (.int .u8) (.slice (.int .u8))) s_5), .d (.sl (.int .u8) s_6)])], 3⟩ [r555_0.1 = false, false = false] (by kernel_rfl) ⟨b556_1, rfl, trivial⟩ ?_
        refine At.step hm ht ⟨[], [], [], [2, 3, 5, 11, 12, 13], [0, 1, 2]⟩ 3 ⟨[(2, .one (.c (.ptr 0 0))), (3, .one (.c (.ptr 1 0))), (5, .one (.c (.own 2 (.pair (.int .u8) (.pair (.int .u32) (.pair (.int .u8) (.pair (.int .u8) (.pair .bool (.int .u64)))))) out))), (11, .one (.c (.d (.sl (.pair (.int .u8) (.slice (.int .u8))) t11)))), (12, .one (.c (.d (.int .i64 t12)))), (13, .one (.c (.d (.int .i64 (IntKind.wrap .i64 (t13 + 1))))))], [(2, some ⟨46, 0⟩)], [(0, [.d (.int .u64 k_0), .d (.int .u64 k_1)]), (1, [.d (.int .u16 s_0), .d (.int .u16 s_1), .d (.int .u32 s_2), .d (.int .u32 s_3), .d (.int .u8 s_4), .d (.sl (.pair (.int .u8) (.slice (.int .u8))) s_5), .d (.sl (.int .u8) s_6)])], 3⟩ [] (by kernel_rfl) trivial ?_
        exact ih out t11 t12 (IntKind.wrap .i64 (t13 + 1)) k_0 k_1 s_0 s_1 s_2 s_3 s_4 s_5 s_6 w h o hk
    · refine At.step hm ht ⟨[], [false], [], [5], [2]⟩ 9 ⟨[(5, .one (.c (.own 0 (.pair (.int .u8) (.pair (.int .u32) (.pair (.int .u8) (.pair (.int .u8) (.pair .bool (.int .u64)))))) out)))], [(0, some ⟨46, 0⟩)], [], 1⟩ [(decide ((t13 : Int) < t12)) = false] (by kernel_rfl) ⟨b553_e0, trivial⟩ ?_
      have h := Option.some.inj h
      subst h
      exact hk
def f60_mac_Words (n : Nat) (k_0 : Int) (k_1 : Int) (s_0 : Int) (s_1 : Int) (s_2 : Int) (s_3 : Int) (s_4 : Int) (s_5 : List (Int × List Int)) (s_6 : List Int) : Option (List (Int × Int × Int × Int × Bool × Int)) :=
  (f60_mac_Words_L3 n [] s_5 ((s_5.length : Nat) : Int) 0 k_0 k_1 s_0 s_1 s_2 s_3 s_4 s_5 s_6).bind fun w561 =>
  some w561
theorem f60_mac_Words_ok (n : Nat) (k_0 : Int) (k_1 : Int) (s_0 : Int) (s_1 : Int) (s_2 : Int) (s_3 : Int) (s_4 : Int) (s_5 : List (Int × List Int)) (s_6 : List Int) (r : List (Int × Int × Int × Int × Bool × Int)) (h : f60_mac_Words n k_0 k_1 s_0 s_1 s_2 s_3 s_4 s_5 s_6 = some r) : FnOK Go.Proofs.Try.prog 60 (f60_mac_Words_in k_0 k_1 s_0 s_1 s_2 s_3 s_4 s_5 s_6) (f60_mac_Words_out r) := by
  unfold f60_mac_Words at h
  refine At.fn (r := 0) Go.Proofs.Try.func60 rfl (by kernel_rfl) rfl rfl (by kernel_rfl) ?_
  show At Go.Proofs.Try.prog Go.Proofs.Try.f60 0 0 ⟨[(0, .one (.agg [.d (.int .u64 k_0), .d (.int .u64 k_1)])), (1, .one (.agg [.d (.int .u16 s_0), .d (.int .u16 s_1), .d (.int .u32 s_2), .d (.int .u32 s_3), .d (.int .u8 s_4), .d (.sl (.pair (.int .u8) (.slice (.int .u8))) s_5), .d (.sl (.int .u8) s_6)]))], [], [], 0⟩ _
  refine At.step hm ht ⟨[], [], [], [2, 3], [0, 1]⟩ 1 ⟨[(2, .one (.c (.ptr 0 0))), (3, .one (.c (.ptr 1 0)))], [], [(0, [.d (.int .u64 k_0), .d (.int .u64 k_1)]), (1, [.d (.int .u16 s_0), .d (.int .u16 s_1), .d (.int .u32 s_2), .d (.int .u32 s_3), .d (.int .u8 s_4), .d (.sl (.pair (.int .u8) (.slice (.int .u8))) s_5), .d (.sl (.int .u8) s_6)])], 2⟩ [] (by kernel_rfl) trivial ?_
  refine At.step hm ht ⟨[], [], [], [2, 3, 5], [0, 1]⟩ 2 ⟨[(2, .one (.c (.ptr 0 0))), (3, .one (.c (.ptr 1 0))), (5, .one (.c (.d (.sl .unit []))))], [], [(0, [.d (.int .u64 k_0), .d (.int .u64 k_1)]), (1, [.d (.int .u16 s_0), .d (.int .u16 s_1), .d (.int .u32 s_2), .d (.int .u32 s_3), .d (.int .u8 s_4), .d (.sl (.pair (.int .u8) (.slice (.int .u8))) s_5), .d (.sl (.int .u8) s_6)])], 2⟩ [] (by kernel_rfl) trivial ?_
  refine At.step hm ht ⟨[], [], [.nil false 5 0 (.pair (.int .u8) (.pair (.int .u32) (.pair (.int .u8) (.pair (.int .u8) (.pair .bool (.int .u64)))))) (some 46)], [2, 3, 5, 11, 12, 13], [0, 1, 6]⟩ 3 ⟨[(2, .one (.c (.ptr 0 0))), (3, .one (.c (.ptr 1 0))), (5, .one (.c (.own 2 (.pair (.int .u8) (.pair (.int .u32) (.pair (.int .u8) (.pair (.int .u8) (.pair .bool (.int .u64)))))) []))), (11, .one (.c (.d (.sl (.pair (.int .u8) (.slice (.int .u8))) s_5)))), (12, .one (.c (.d (.int .i64 ((s_5.length : Nat) : Int))))), (13, .one (.c (.d (.int .i64 0))))], [(2, some ⟨46, 0⟩)], [(0, [.d (.int .u64 k_0), .d (.int .u64 k_1)]), (1, [.d (.int .u16 s_0), .d (.int .u16 s_1), .d (.int .u32 s_2), .d (.int .u32 s_3), .d (.int .u8 s_4), .d (.sl (.pair (.int .u8) (.slice (.int .u8))) s_5), .d (.sl (.int .u8) s_6)])], 3⟩ [] (by kernel_rfl) trivial ?_
  obtain ⟨w561, cw561, h⟩ := bindS h
  refine f60_mac_Words_L3_ok n [] s_5 ((s_5.length : Nat) : Int) 0 k_0 k_1 s_0 s_1 s_2 s_3 s_4 s_5 s_6 w561 cw561 _ ?_
  show At Go.Proofs.Try.prog Go.Proofs.Try.f60 0 9 ⟨[(5, .one (.c (.own 0 (.pair (.int .u8) (.pair (.int .u32) (.pair (.int .u8) (.pair (.int .u8) (.pair .bool (.int .u64)))))) w561)))], [(0, some ⟨46, 0⟩)], [], 1⟩ _
  have h := Option.some.inj h
  subst h
  exact At.fin hm ht ⟨[], [], [], [4], [0]⟩ [] (by kernel_rfl) trivial
/-! brougham/broughamref08.ParseWord -/
def f39_broughamref08_ParseWord_in (o__0 : Int) (o__1 : List Int) : Inn := ⟨[.agg [.d (.int .u8 o__0), .d (.sl (.int .u8) o__1)]], [], [], 0⟩
def f39_broughamref08_ParseWord_out (r : Bool × Int × Int × Int × Bool × Int) : Out := ⟨.tup [.agg [.d (.int .u32 r.2.1), .d (.int .u8 r.2.2.1), .d (.int .u8 r.2.2.2.1), .d (.bool r.2.2.2.2.1), .d (.int .u64 r.2.2.2.2.2)], .c (.d (.bool r.1))], [], [(0, [.d (.int .u32 r.2.1), .d (.int .u8 r.2.2.1), .d (.int .u8 r.2.2.2.1), .d (.bool r.2.2.2.2.1), .d (.int .u64 r.2.2.2.2.2)])], 1⟩
def f39_broughamref08_ParseWord (n : Nat) (o__0 : Int) (o__1 : List Int) : Option (Bool × Int × Int × Int × Bool × Int) :=
  (f84_broughamref02_All n o__1 [4, 1, 1, 1, 8]).bind fun r571_0 =>
  if (decide ((o__0 : Int) < 4)) = true then
    some (false, 0, 0, 0, false, 0)
  else
    if (decide ((o__0 : Int) > 7)) = true then
      some (false, 0, 0, 0, false, 0)
    else
      if (!r571_0.2.2) = true then
        some (false, 0, 0, 0, false, 0)
      else
        if (0 : Int) ≤ 3 ∧ 3 < (((r571_0.1).length : Nat) : Int) then
        if (decide (((r571_0.1.getD 3 0) : Int) > 1)) = true then
          some (false, 0, 0, 0, false, 0)
        else
          if ((((r571_0.2.1.length : Nat) : Int) : Int) != 0) = true then
            some (false, 0, 0, 0, false, 0)
          else
            if (0 : Int) ≤ 0 ∧ 0 < (((r571_0.1).length : Nat) : Int) then
            if (0 : Int) ≤ 1 ∧ 1 < (((r571_0.1).length : Nat) : Int) then
            if (0 : Int) ≤ 2 ∧ 2 < (((r571_0.1).length : Nat) : Int) then
            if (0 : Int) ≤ 3 ∧ 3 < (((r571_0.1).length : Nat) : Int) then
            if (0 : Int) ≤ 4 ∧ 4 < (((r571_0.1).length : Nat) : Int) then
            some (true, (IntKind.wrap .u32 (r571_0.1.getD 0 0)), (IntKind.wrap .u8 (r571_0.1.getD 1 0)), (IntKind.wrap .u8 (r571_0.1.getD 2 0)), (((r571_0.1.getD 3 0) : Int) == 1), (r571_0.1.getD 4 0))
            else none
            else none
            else none
            else none
            else none
        else none
theorem f39_broughamref08_ParseWord_ok (n : Nat) (o__0 : Int) (o__1 : List Int) (r : Bool × Int × Int × Int × Bool × Int) (h : f39_broughamref08_ParseWord n o__0 o__1 = some r) : FnOK Go.Proofs.Try.prog 39 (f39_broughamref08_ParseWord_in o__0 o__1) (f39_broughamref08_ParseWord_out r) := by
  unfold f39_broughamref08_ParseWord at h
  refine At.fn (r := 0) Go.Proofs.Try.func39 rfl (by kernel_rfl) rfl rfl (by kernel_rfl) ?_
  show At Go.Proofs.Try.prog Go.Proofs.Try.f39 0 0 ⟨[(0, .one (.agg [.d (.int .u8 o__0), .d (.sl (.int .u8) o__1)]))], [], [], 0⟩ _
  refine At.step hm ht ⟨[], [], [], [1, 2], [0, 1]⟩ 1 ⟨[(1, .one (.c (.ptr 0 0))), (2, .one (.c (.ptr 1 0)))], [], [(0, [.d (.int .u8 o__0), .d (.sl (.int .u8) o__1)]), (1, [.d (.int .u32 0), .d (.int .u8 0), .d (.int .u8 0), .d (.bool false), .d (.int .u64 0)])], 2⟩ [] (by kernel_rfl) trivial ?_
  obtain ⟨r571_0, cr571_0, h⟩ := bindS h
  refine At.step hm ht ⟨[(3, .call [] [] (f84_broughamref02_All_out r571_0))], [], [], [1, 2, 4, 5, 6], [0, 1, 5]⟩ 2 ⟨[(1, .one (.c (.ptr 0 0))), (2, .one (.c (.ptr 1 0))), (4, .one (.c (.own 2 (.int .u64) r571_0.1))), (5, .one (.c (.d (.sl (.int .u8) r571_0.2.1)))), (6, .one (.c (.d (.bool r571_0.2.2))))], [(2, some ⟨36, 0⟩)], [(0, [.d (.int .u8 o__0), .d (.sl (.int .u8) o__1)]), (1, [.d (.int .u32 0), .d (.int .u8 0), .d (.int .u8 0), .d (.bool false), .d (.int .u64 0)])], 3⟩ [FnOK Go.Proofs.Try.prog 84 (f84_broughamref02_All_in o__1 [4, 1, 1, 1, 8]) (f84_broughamref02_All_out r571_0)] (by kernel_rfl) ⟨(f84_broughamref02_All_ok n o__1 [4, 1, 1, 1, 8] r571_0 cr571_0), trivial⟩ ?_
  rcases iteS h with ⟨b572_3, h⟩ | ⟨b572_3, h⟩
  · refine At.step hm ht ⟨[(3, .b true)], [true], [], [2], [1]⟩ 3 ⟨[(2, .one (.c (.ptr 0 0)))], [], [(0, [.d (.int .u32 0), .d (.int .u8 0), .d (.int .u8 0), .d (.bool false), .d (.int .u64 0)])], 1⟩ [(decide ((o__0 : Int) < 4)) = true, true = true] (by kernel_rfl) ⟨b572_3, rfl, trivial⟩ ?_
    have h := Option.some.inj h
    subst h
    exact At.fin hm ht ⟨[], [], [], [2, 3], [0]⟩ [0 + 5 ≤ 5] (by kernel_rfl) ⟨(by decide), trivial⟩
  · rcases iteS h with ⟨b572_8, h⟩ | ⟨b572_8, h⟩
    · refine At.step hm ht ⟨[(3, .b false), (8, .b true)], [true], [], [2], [1]⟩ 3 ⟨[(2, .one (.c (.ptr 0 0)))], [], [(0, [.d (.int .u32 0), .d (.int .u8 0), .d (.int .u8 0), .d (.bool false), .d (.int .u64 0)])], 1⟩ [(decide ((o__0 : Int) < 4)) = false, (decide ((o__0 : Int) > 7)) = true, true = true] (by kernel_rfl) ⟨b572_3, b572_8, rfl, trivial⟩ ?_
      have h := Option.some.inj h
      subst h
      exact At.fin hm ht ⟨[], [], [], [2, 3], [0]⟩ [0 + 5 ≤ 5] (by kernel_rfl) ⟨(by decide), trivial⟩
    · rcases iteS h with ⟨b572_12, h⟩ | ⟨b572_12, h⟩
      · refine At.step hm ht ⟨[(3, .b false), (8, .b false), (12, .b true)], [true], [], [2], [1]⟩ 3 ⟨[(2, .one (.c (.ptr 0 0)))], [], [(0, [.d (.int .u32 0), .d (.int .u8 0), .d (.int .u8 0), .d (.bool false), .d (.int .u64 0)])], 1⟩ [(decide ((o__0 : Int) < 4)) = false, (decide ((o__0 : Int) > 7)) = false, (!r571_0.2.2) = true, true = true] (by kernel_rfl) ⟨b572_3, b572_8, b572_12, rfl, trivial⟩ ?_
        have h := Option.some.inj h
        subst h
        exact At.fin hm ht ⟨[], [], [], [2, 3], [0]⟩ [0 + 5 ≤ 5] (by kernel_rfl) ⟨(by decide), trivial⟩
      · obtain ⟨g572_0, h⟩ := ifS h
        rcases iteS h with ⟨b572_18, h⟩ | ⟨b572_18, h⟩
        · refine At.step hm ht ⟨[(3, .b false), (8, .b false), (12, .b false), (18, .b true)], [true], [], [2], [1]⟩ 3 ⟨[(2, .one (.c (.ptr 0 0)))], [], [(0, [.d (.int .u32 0), .d (.int .u8 0), .d (.int .u8 0), .d (.bool false), .d (.int .u64 0)])], 1⟩ [(decide ((o__0 : Int) < 4)) = false, (decide ((o__0 : Int) > 7)) = false, (!r571_0.2.2) = false, (0 : Int) ≤ 3 ∧ 3 < (((r571_0.1).length : Nat) : Int), (decide (((r571_0.1.getD 3 0) : Int) > 1)) = true, true = true] (by kernel_rfl) ⟨b572_3, b572_8, b572_12, g572_0, b572_18, rfl, trivial⟩ ?_
          have h := Option.some.inj h
          subst h
          exact At.fin hm ht ⟨[], [], [], [2, 3], [0]⟩ [0 + 5 ≤ 5] (by kernel_rfl) ⟨(by decide), trivial⟩
        · rcases iteS h with ⟨b572_e0, h⟩ | ⟨b572_e0, h⟩
          · refine At.step hm ht ⟨[(3, .b false), (8, .b false), (12, .b false), (18, .b false)], [true], [], [2], [1]⟩ 3 ⟨[(2, .one (.c (.ptr 0 0)))], [], [(0, [.d (.int .u32 0), .d (.int .u8 0), .d (.int .u8 0), .d (.bool false), .d (.int .u64 0)])], 1⟩ [(decide ((o__0 : Int) < 4)) = false, (decide ((o__0 : Int) > 7)) = false, (!r571_0.2.2) = false, (0 : Int) ≤ 3 ∧ 3 < (((r571_0.1).length : Nat) : Int), (decide (((r571_0.1.getD 3 0) : Int) > 1)) = false, ((((r571_0.2.1.length : Nat) : Int) : Int) != 0) = true] (by kernel_rfl) ⟨b572_3, b572_8, b572_12, g572_0, b572_18, b572_e0, trivial⟩ ?_
            have h := Option.some.inj h
            subst h
            exact At.fin hm ht ⟨[], [], [], [2, 3], [0]⟩ [0 + 5 ≤ 5] (by kernel_rfl) ⟨(by decide), trivial⟩
          · refine At.step hm ht ⟨[(3, .b false), (8, .b false), (12, .b false), (18, .b false)], [false], [], [2, 4], [1, 2]⟩ 4 ⟨[(2, .one (.c (.ptr 0 0))), (4, .one (.c (.own 1 (.int .u64) r571_0.1)))], [(1, some ⟨36, 0⟩)], [(0, [.d (.int .u32 0), .d (.int .u8 0), .d (.int .u8 0), .d (.bool false), .d (.int .u64 0)])], 2⟩ [(decide ((o__0 : Int) < 4)) = false, (decide ((o__0 : Int) > 7)) = false, (!r571_0.2.2) = false, (0 : Int) ≤ 3 ∧ 3 < (((r571_0.1).length : Nat) : Int), (decide (((r571_0.1.getD 3 0) : Int) > 1)) = false, ((((r571_0.2.1.length : Nat) : Int) : Int) != 0) = false] (by kernel_rfl) ⟨b572_3, b572_8, b572_12, g572_0, b572_18, b572_e0, trivial⟩ ?_
            obtain ⟨g578_0, h⟩ := ifS h
            obtain ⟨g578_1, h⟩ := ifS h
            obtain ⟨g578_2, h⟩ := ifS h
            obtain ⟨g578_3, h⟩ := ifS h
            obtain ⟨g578_4, h⟩ := ifS h
            have h := Option.some.inj h
            subst h
            exact At.fin hm ht ⟨[], [], [], [2, 3], [0]⟩ [(0 : Int) ≤ 0 ∧ 0 < (((r571_0.1).length : Nat) : Int), (0 : Int) ≤ 1 ∧ 1 < (((r571_0.1).length : Nat) : Int), (0 : Int) ≤ 2 ∧ 2 < (((r571_0.1).length : Nat) : Int), (0 : Int) ≤ 3 ∧ 3 < (((r571_0.1).length : Nat) : Int), (0 : Int) ≤ 4 ∧ 4 < (((r571_0.1).length : Nat) : Int), 0 + 5 ≤ 5] (by kernel_rfl) ⟨g578_0, g578_1, g578_2, g578_3, g578_4, (by decide), trivial⟩
/-! brougham/broughamref10.Words -/
def f61_broughamref10_Words_in (k_0 : Int) (k_1 : Int) (s_0 : Int) (s_1 : Int) (s_2 : Int) (s_3 : Int) (s_4 : Int) (s_5 : List (Int × List Int)) (s_6 : List Int) : Inn := ⟨[.agg [.d (.int .u64 k_0), .d (.int .u64 k_1)], .agg [.d (.int .u16 s_0), .d (.int .u16 s_1), .d (.int .u32 s_2), .d (.int .u32 s_3), .d (.int .u8 s_4), .d (.sl (.pair (.int .u8) (.slice (.int .u8))) s_5), .d (.sl (.int .u8) s_6)]], [], [], 0⟩
def f61_broughamref10_Words_out (r : List (Int × List Int)) : Out := ⟨.one (.c (.own 0 (.pair (.int .u8) (.slice (.int .u8))) r)), [(0, ⟨30, 0⟩)], [], 1⟩
def f61_broughamref10_Words_L3 : Nat → (List (Int × List Int)) → Int → Int → Int → Int → Int → Int → Int → Int → (List (Int × List Int)) → (List Int) → Option (List (Int × List Int))
  | 0, _, _, _, _, _, _, _, _, _, _, _ => none
  | n + 1, out, i, k_0, k_1, s_0, s_1, s_2, s_3, s_4, s_5, s_6 =>
    if (decide ((i : Int) < ((s_5.length : Nat) : Int))) = true then
      if (0 : Int) ≤ i ∧ i < (((s_5).length : Nat) : Int) then
      (f39_broughamref08_ParseWord n ((s_5.getD i.toNat (0, [])).1) ((s_5.getD i.toNat (0, [])).2)).bind fun r586_1 =>
      if r586_1.1 = true then
        if (0 : Int) ≤ i ∧ i < (((s_5).length : Nat) : Int) then
        if (0 : Int) ≤ i ∧ i < (((s_5).length : Nat) : Int) then
        (f66_broughamref10_Tag n k_0 k_1 s_0 s_1 s_2 s_3 s_4 s_5 s_6 ((s_5.getD i.toNat (0, [])).1) ((s_5.getD i.toNat (0, [])).2)).bind fun r587_2 =>
        if ((r586_1.2.2.2.2.2 : Int) == r587_2) = true then
          if (0 : Int) ≤ i ∧ i < (((s_5).length : Nat) : Int) then
          if out.length + [(s_5.getD i.toNat (0, []))].length ≤ maxLen ∧ (out.length + [(s_5.getD i.toNat (0, []))].length) * 32 ≤ 140737488355328 then
          f61_broughamref10_Words_L3 n (out ++ [(s_5.getD i.toNat (0, []))]) (IntKind.wrap .i64 (i + 1)) k_0 k_1 s_0 s_1 s_2 s_3 s_4 s_5 s_6
          else none
          else none
        else
          f61_broughamref10_Words_L3 n out (IntKind.wrap .i64 (i + 1)) k_0 k_1 s_0 s_1 s_2 s_3 s_4 s_5 s_6
        else none
        else none
      else
        f61_broughamref10_Words_L3 n out (IntKind.wrap .i64 (i + 1)) k_0 k_1 s_0 s_1 s_2 s_3 s_4 s_5 s_6
      else none
    else
      some (out)
def f61_broughamref10_Words_L3_k (e : List (Int × List Int)) (o : Out) : Prop := At Go.Proofs.Try.prog Go.Proofs.Try.f61 0 8 ⟨[(5, .one (.c (.own 0 (.pair (.int .u8) (.slice (.int .u8))) e)))], [(0, some ⟨30, 0⟩)], [], 1⟩ o
theorem f61_broughamref10_Words_L3_ok (n : Nat) : ∀ (out : List (Int × List Int)) (i : Int) (k_0 : Int) (k_1 : Int) (s_0 : Int) (s_1 : Int) (s_2 : Int) (s_3 : Int) (s_4 : Int) (s_5 : List (Int × List Int)) (s_6 : List Int) (w : List (Int × List Int)) (h : f61_broughamref10_Words_L3 n out i k_0 k_1 s_0 s_1 s_2 s_3 s_4 s_5 s_6 = some w) (o : Out) (hk : f61_broughamref10_Words_L3_k w o), At Go.Proofs.Try.prog Go.Proofs.Try.f61 0 3 ⟨[(2, .one (.c (.ptr 0 0))), (3, .one (.c (.ptr 1 0))), (5, .one (.c (.own 2 (.pair (.int .u8) (.slice (.int .u8))) out))), (6, .one (.c (.d (.int .i64 i))))], [(2, some ⟨30, 0⟩)], [(0, [.d (.int .u64 k_0), .d (.int .u64 k_1)]), (1, [.d (.int .u16 s_0), .d (.int .u16 s_1), .d (.int .u32 s_2), .d (.int .u32 s_3), .d (.int .u8 s_4), .d (.sl (.pair (.int .u8) (.slice (.int .u8))) s_5), .d (.sl (.int .u8) s_6)])], 3⟩ o := by
  induction n with
  | zero => intro out i k_0 k_1 s_0 s_1 s_2 s_3 s_4 s_5 s_6 w h; rw [f61_broughamref10_Words_L3] at h; cases h
  | succ n ih =>
    intro out i k_0 k_1 s_0 s_1 s_2 s_3 s_4 s_5 s_6 w h o hk
    rw [f61_broughamref10_Words_L3] at h
    rcases iteS h with ⟨b585_e0, h⟩ | ⟨b585_e0, h⟩
    · refine At.step hm ht ⟨[], [true], [], [2, 3, 5, 6], [0, 1, 2]⟩ 5 ⟨[(2, .one (.c (.ptr 0 0))), (3, .one (.c (.ptr 1 0))), (5, .one (.c (.own 2 (.pair (.int .u8) (.slice (.int .u8))) out))), (6, .one (.c (.d (.int .i64 i))))], [(2, some ⟨30, 0⟩)], [(0, [.d (.int .u64 k_0), .d (.int .u64 k_1)]), (1, [.d (.int .u16 s_0), .d (.int .u16 s_1), .d (.int .u32 s_2), .d (.int .u32 s_3), .d (.int .u8 s_4), .d (.sl (.pair (.int .u8) (.slice (.int .u8))) s_5), .d (.sl (.int .u8) s_6)])], 3⟩ [(decide ((i : Int) < ((s_5.length : Nat) : Int))) = true] (by kernel_rfl) ⟨b585_e0, trivial⟩ ?_
      obtain ⟨g586_0, h⟩ := ifS h
      obtain ⟨r586_1, cr586_1, h⟩ := bindS h
      refine At.step hm ht ⟨[(5, .call [] [] (f39_broughamref08_ParseWord_out r586_1))], [], [], [2, 3, 5, 6, 7, 8], [0, 1, 2, 12]⟩ 6 ⟨[(2, .one (.c (.ptr 0 0))), (3, .one (.c (.ptr 1 0))), (5, .one (.c (.own 2 (.pair (.int .u8) (.slice (.int .u8))) out))), (6, .one (.c (.d (.int .i64 i)))), (7, .one (.c (.ptr 3 0))), (8, .one (.c (.d (.bool r586_1.1))))], [(2, some ⟨30, 0⟩)], [(0, [.d (.int .u64 k_0), .d (.int .u64 k_1)]), (1, [.d (.int .u16 s_0), .d (.int .u16 s_1), .d (.int .u32 s_2), .d (.int .u32 s_3), .d (.int .u8 s_4), .d (.sl (.pair (.int .u8) (.slice (.int .u8))) s_5), .d (.sl (.int .u8) s_6)]), (3, [.d (.int .u32 r586_1.2.1), .d (.int .u8 r586_1.2.2.1), .d (.int .u8 r586_1.2.2.2.1), .d (.bool r586_1.2.2.2.2.1), .d (.int .u64 r586_1.2.2.2.2.2)])], 4⟩ [(0 : Int) ≤ i ∧ i < (((s_5).length : Nat) : Int), FnOK Go.Proofs.Try.prog 39 (f39_broughamref08_ParseWord_in ((s_5.getD i.toNat (0, [])).1) ((s_5.getD i.toNat (0, [])).2)) (f39_broughamref08_ParseWord_out r586_1), 0 + 5 ≤ 5] (by kernel_rfl) ⟨g586_0, (f39_broughamref08_ParseWord_ok n ((s_5.getD i.toNat (0, [])).1) ((s_5.getD i.toNat (0, [])).2) r586_1 cr586_1), (by decide), trivial⟩ ?_
      rcases iteS h with ⟨b587_1, h⟩ | ⟨b587_1, h⟩
      · obtain ⟨g587_0, h⟩ := ifS h
        obtain ⟨g587_1, h⟩ := ifS h
        obtain ⟨r587_2, cr587_2, h⟩ := bindS h
        rcases iteS h with ⟨b587_e0, h⟩ | ⟨b587_e0, h⟩
        · refine At.step hm ht ⟨[(1, .b true), (18, .call [] [] (f66_broughamref10_Tag_out r587_2))], [true], [], [2, 3, 5, 6], [0, 1, 2]⟩ 7 ⟨[(2, .one (.c (.ptr 0 0))), (3, .one (.c (.ptr 1 0))), (5, .one (.c (.own 2 (.pair (.int .u8) (.slice (.int .u8))) out))), (6, .one (.c (.d (.int .i64 i))))], [(2, some ⟨30, 0⟩)], [(0, [.d (.int .u64 k_0), .d (.int .u64 k_1)]), (1, [.d (.int .u16 s_0), .d (.int .u16 s_1), .d (.int .u32 s_2), .d (.int .u32 s_3), .d (.int .u8 s_4), .d (.sl (.pair (.int .u8) (.slice (.int .u8))) s_5), .d (.sl (.int .u8) s_6)])], 3⟩ [r586_1.1 = true, (0 : Int) ≤ i ∧ i < (((s_5).length : Nat) : Int), (0 : Int) ≤ i ∧ i < (((s_5).length : Nat) : Int), FnOK Go.Proofs.Try.prog 66 (f66_broughamref10_Tag_in k_0 k_1 s_0 s_1 s_2 s_3 s_4 s_5 s_6 ((s_5.getD i.toNat (0, [])).1) ((s_5.getD i.toNat (0, [])).2)) (f66_broughamref10_Tag_out r587_2), ((r586_1.2.2.2.2.2 : Int) == r587_2) = true] (by kernel_rfl) ⟨b587_1, g587_0, g587_1, (f66_broughamref10_Tag_ok n k_0 k_1 s_0 s_1 s_2 s_3 s_4 s_5 s_6 ((s_5.getD i.toNat (0, [])).1) ((s_5.getD i.toNat (0, [])).2) r587_2 cr587_2), b587_e0, trivial⟩ ?_
          obtain ⟨g588_0, h⟩ := ifS h
          obtain ⟨g588_1, h⟩ := ifS h
          refine At.step hm ht ⟨[], [], [], [2, 3, 5, 6], [0, 1, 10]⟩ 4 ⟨[(2, .one (.c (.ptr 0 0))), (3, .one (.c (.ptr 1 0))), (5, .one (.c (.own 2 (.pair (.int .u8) (.slice (.int .u8))) (out ++ [(s_5.getD i.toNat (0, []))])))), (6, .one (.c (.d (.int .i64 i))))], [(2, some ⟨30, 0⟩)], [(0, [.d (.int .u64 k_0), .d (.int .u64 k_1)]), (1, [.d (.int .u16 s_0), .d (.int .u16 s_1), .d (.int .u32 s_2), .d (.int .u32 s_3), .d (.int .u8 s_4), .d (.sl (.pair (.int .u8) (.slice (.int .u8))) s_5), .d (.sl (.int .u8) s_6)])], 3⟩ [(0 : Int) ≤ i ∧ i < (((s_5).length : Nat) : Int), out.length + [(s_5.getD i.toNat (0, []))].length ≤ maxLen ∧ (out.length + [(s_5.getD i.toNat (0, []))].length) * 32 ≤ 140737488355328] (by kernel_rfl) ⟨g588_0, g588_1, trivial⟩ ?_
          refine At.step hm ht ⟨[], [], [], [2, 3, 5, 6], [0, 1, 2]⟩ 3 ⟨[(2, .one (.c (.ptr 0 0))), (3, .one (.c (.ptr 1 0))), (5, .one (.c (.own 2 (.pair (.int .u8) (.slice (.int .u8))) (out ++ [(s_5.getD i.toNat (0, []))])))), (6, .one (.c (.d (.int .i64 (IntKind.wrap .i64 (i + 1))))))], [(2, some ⟨30, 0⟩)], [(0, [.d (.int .u64 k_0), .d (.int .u64 k_1)]), (1, [.d (.int .u16 s_0), .d (.int .u16 s_1), .d (.int .u32 s_2), .d (.int .u32 s_3), .d (.int .u8 s_4), .d (.sl (.pair (.int .u8) (.slice (.int .u8))) s_5), .d (.sl (.int .u8) s_6)])], 3⟩ [] (by kernel_rfl) trivial ?_
          exact ih (out ++ [(s_5.getD i.toNat (0, []))]) (IntKind.wrap .i64 (i + 1)) k_0 k_1 s_0 s_1 s_2 s_3 s_4 s_5 s_6 w h o hk
        · refine At.step hm ht ⟨[(1, .b true), (18, .call [] [] (f66_broughamref10_Tag_out r587_2))], [false], [], [2, 3, 5, 6], [0, 1, 2]⟩ 4 ⟨[(2, .one (.c (.ptr 0 0))), (3, .one (.c (.ptr 1 0))), (5, .one (.c (.own 2 (.pair (.int .u8) (.slice (.int .u8))) out))), (6, .one (.c (.d (.int .i64 i))))], [(2, some ⟨30, 0⟩)], [(0, [.d (.int .u64 k_0), .d (.int .u64 k_1)]), (1, [.d (.int .u16 s_0), .d (.int .u16 s_1), .d (.int .u32 s_2), .d (.int .u32 s_3), .d (.int .u8 s_4), .d (.sl (.pair (.int .u8) (.slice (.int .u8))) s_5), .d (.sl (.int .u8) s_6)])], 3⟩ [r586_1.1 = true, (0 : Int) ≤ i ∧ i < (((s_5).length : Nat) : Int), (0 : Int) ≤ i ∧ i < (((s_5).length : Nat) : Int), FnOK Go.Proofs.Try.prog 66 (f66_broughamref10_Tag_in k_0 k_1 s_0 s_1 s_2 s_3 s_4 s_5 s_6 ((s_5.getD i.toNat (0, [])).1) ((s_5.getD i.toNat (0, [])).2)) (f66_broughamref10_Tag_out r587_2), ((r586_1.2.2.2.2.2 : Int) == r587_2) = false] (by kernel_rfl) ⟨b587_1, g587_0, g587_1, (f66_broughamref10_Tag_ok n k_0 k_1 s_0 s_1 s_2 s_3 s_4 s_5 s_6 ((s_5.getD i.toNat (0, [])).1) ((s_5.getD i.toNat (0, [])).2) r587_2 cr587_2), b587_e0, trivial⟩ ?_
          refine At.step hm ht ⟨[], [], [], [2, 3, 5, 6], [0, 1, 2]⟩ 3 ⟨[(2, .one (.c (.ptr 0 0))), (3, .one (.c (.ptr 1 0))), (5, .one (.c (.own 2 (.pair (.int .u8) (.slice (.int .u8))) out))), (6, .one (.c (.d (.int .i64 (IntKind.wrap .i64 (i + 1))))))], [(2, some ⟨30, 0⟩)], [(0, [.d (.int .u64 k_0), .d (.int .u64 k_1)]), (1, [.d (.int .u16 s_0), .d (.int .u16 s_1), .d (.int .u32 s_2), .d (.int .u32 s_3), .d (.int .u8 s_4), .d (.sl (.pair (.int .u8) (.slice (.int .u8))) s_5), .d (.sl (.int .u8) s_6)])], 3⟩ [] (by kernel_rfl) trivial ?_
          exact ih out (IntKind.wrap .i64 (i + 1)) k_0 k_1 s_0 s_1 s_2 s_3 s_4 s_5 s_6 w h o hk
      · refine At.step hm ht ⟨[(1, .b false)], [false], [], [2, 3, 5, 6], [0, 1, 2]⟩ 4 ⟨[(2, .one (.c (.ptr 0 0))), (3, .one (.c (.ptr 1 0))), (5, .one (.c (.own 2 (.pair (.int .u8) (.slice (.int .u8))) out))), (6, .one (.c (.d (.int .i64 i))))], [(2, some ⟨30, 0⟩)], [(0, [.d (.int .u64 k_0), .d (.int .u64 k_1)]), (1, [.d (.int .u16 s_0), .d (.int .u16 s_1), .d (.int .u32 s_2), .d (.int .u32 s_3), .d (.int .u8 s_4), .d (.sl (.pair (.int .u8) (.slice (.int .u8))) s_5), .d (.sl (.int .u8) s_6)])], 3⟩ [r586_1.1 = false, false = false] (by kernel_rfl) ⟨b587_1, rfl, trivial⟩ ?_
        refine At.step hm ht ⟨[], [], [], [2, 3, 5, 6], [0, 1, 2]⟩ 3 ⟨[(2, .one (.c (.ptr 0 0))), (3, .one (.c (.ptr 1 0))), (5, .one (.c (.own 2 (.pair (.int .u8) (.slice (.int .u8))) out))), (6, .one (.c (.d (.int .i64 (IntKind.wrap .i64 (i + 1))))))], [(2, some ⟨30, 0⟩)], [(0, [.d (.int .u64 k_0), .d (.int .u64 k_1)]), (1, [.d (.int .u16 s_0), .d (.int .u16 s_1), .d (.int .u32 s_2), .d (.int .u32 s_3), .d (.int .u8 s_4), .d (.sl (.pair (.int .u8) (.slice (.int .u8))) s_5), .d (.sl (.int .u8) s_6)])], 3⟩ [] (by kernel_rfl) trivial ?_
        exact ih out (IntKind.wrap .i64 (i + 1)) k_0 k_1 s_0 s_1 s_2 s_3 s_4 s_5 s_6 w h o hk
    · refine At.step hm ht ⟨[], [false], [], [5], [2]⟩ 8 ⟨[(5, .one (.c (.own 0 (.pair (.int .u8) (.slice (.int .u8))) out)))], [(0, some ⟨30, 0⟩)], [], 1⟩ [(decide ((i : Int) < ((s_5.length : Nat) : Int))) = false] (by kernel_rfl) ⟨b585_e0, trivial⟩ ?_
      have h := Option.some.inj h
      subst h
      exact hk
def f61_broughamref10_Words (n : Nat) (k_0 : Int) (k_1 : Int) (s_0 : Int) (s_1 : Int) (s_2 : Int) (s_3 : Int) (s_4 : Int) (s_5 : List (Int × List Int)) (s_6 : List Int) : Option (List (Int × List Int)) :=
  (f61_broughamref10_Words_L3 n [] 0 k_0 k_1 s_0 s_1 s_2 s_3 s_4 s_5 s_6).bind fun w592 =>
  some w592
theorem f61_broughamref10_Words_ok (n : Nat) (k_0 : Int) (k_1 : Int) (s_0 : Int) (s_1 : Int) (s_2 : Int) (s_3 : Int) (s_4 : Int) (s_5 : List (Int × List Int)) (s_6 : List Int) (r : List (Int × List Int)) (h : f61_broughamref10_Words n k_0 k_1 s_0 s_1 s_2 s_3 s_4 s_5 s_6 = some r) : FnOK Go.Proofs.Try.prog 61 (f61_broughamref10_Words_in k_0 k_1 s_0 s_1 s_2 s_3 s_4 s_5 s_6) (f61_broughamref10_Words_out r) := by
  unfold f61_broughamref10_Words at h
  refine At.fn (r := 0) Go.Proofs.Try.func61 rfl (by kernel_rfl) rfl rfl (by kernel_rfl) ?_
  show At Go.Proofs.Try.prog Go.Proofs.Try.f61 0 0 ⟨[(0, .one (.agg [.d (.int .u64 k_0), .d (.int .u64 k_1)])), (1, .one (.agg [.d (.int .u16 s_0), .d (.int .u16 s_1), .d (.int .u32 s_2), .d (.int .u32 s_3), .d (.int .u8 s_4), .d (.sl (.pair (.int .u8) (.slice (.int .u8))) s_5), .d (.sl (.int .u8) s_6)]))], [], [], 0⟩ _
  refine At.step hm ht ⟨[], [], [], [2, 3], [0, 1]⟩ 1 ⟨[(2, .one (.c (.ptr 0 0))), (3, .one (.c (.ptr 1 0)))], [], [(0, [.d (.int .u64 k_0), .d (.int .u64 k_1)]), (1, [.d (.int .u16 s_0), .d (.int .u16 s_1), .d (.int .u32 s_2), .d (.int .u32 s_3), .d (.int .u8 s_4), .d (.sl (.pair (.int .u8) (.slice (.int .u8))) s_5), .d (.sl (.int .u8) s_6)])], 2⟩ [] (by kernel_rfl) trivial ?_
  refine At.step hm ht ⟨[], [], [], [2, 3, 5], [0, 1]⟩ 2 ⟨[(2, .one (.c (.ptr 0 0))), (3, .one (.c (.ptr 1 0))), (5, .one (.c (.d (.sl .unit []))))], [], [(0, [.d (.int .u64 k_0), .d (.int .u64 k_1)]), (1, [.d (.int .u16 s_0), .d (.int .u16 s_1), .d (.int .u32 s_2), .d (.int .u32 s_3), .d (.int .u8 s_4), .d (.sl (.pair (.int .u8) (.slice (.int .u8))) s_5), .d (.sl (.int .u8) s_6)])], 2⟩ [] (by kernel_rfl) trivial ?_
  refine At.step hm ht ⟨[], [], [.nil false 5 0 (.pair (.int .u8) (.slice (.int .u8))) (some 30)], [2, 3, 5, 6], [0, 1, 3]⟩ 3 ⟨[(2, .one (.c (.ptr 0 0))), (3, .one (.c (.ptr 1 0))), (5, .one (.c (.own 2 (.pair (.int .u8) (.slice (.int .u8))) []))), (6, .one (.c (.d (.int .i64 0))))], [(2, some ⟨30, 0⟩)], [(0, [.d (.int .u64 k_0), .d (.int .u64 k_1)]), (1, [.d (.int .u16 s_0), .d (.int .u16 s_1), .d (.int .u32 s_2), .d (.int .u32 s_3), .d (.int .u8 s_4), .d (.sl (.pair (.int .u8) (.slice (.int .u8))) s_5), .d (.sl (.int .u8) s_6)])], 3⟩ [] (by kernel_rfl) trivial ?_
  obtain ⟨w592, cw592, h⟩ := bindS h
  refine f61_broughamref10_Words_L3_ok n [] 0 k_0 k_1 s_0 s_1 s_2 s_3 s_4 s_5 s_6 w592 cw592 _ ?_
  show At Go.Proofs.Try.prog Go.Proofs.Try.f61 0 8 ⟨[(5, .one (.c (.own 0 (.pair (.int .u8) (.slice (.int .u8))) w592)))], [(0, some ⟨30, 0⟩)], [], 1⟩ _
  have h := Option.some.inj h
  subst h
  exact At.fin hm ht ⟨[], [], [], [4], [0]⟩ [] (by kernel_rfl) trivial
/-! brougham/pack.Flag -/
def f78_pack_Flag_in (is_ : Bool) : Inn := ⟨[.c (.d (.bool is_))], [], [], 0⟩
def f78_pack_Flag_out (r : Int × Int) : Out := ⟨.one (.agg [.d (.int .i64 r.1), .d (.int .u64 r.2)]), [], [(0, [.d (.int .i64 r.1), .d (.int .u64 r.2)])], 1⟩
def f78_pack_Flag (is_ : Bool) : Option (Int × Int) :=
  if is_ = true then
    (f77_pack_B 1).bind fun r606_0 =>
    some (r606_0.1, r606_0.2)
  else
    (f77_pack_B 0).bind fun r607_0 =>
    some (r607_0.1, r607_0.2)
theorem f78_pack_Flag_ok (is_ : Bool) (r : Int × Int) (h : f78_pack_Flag is_ = some r) : FnOK Go.Proofs.Try.prog 78 (f78_pack_Flag_in is_) (f78_pack_Flag_out r) := by
  unfold f78_pack_Flag at h
  refine At.fn (r := 0) Go.Proofs.Try.func78 rfl (by kernel_rfl) rfl rfl (by kernel_rfl) ?_
  show At Go.Proofs.Try.prog Go.Proofs.Try.f78 0 0 ⟨[(0, .one (.c (.d (.bool is_))))], [], [], 0⟩ _
  refine At.step hm ht ⟨[], [], [], [0, 2], [0]⟩ 1 ⟨[(0, .one (.c (.d (.bool is_)))), (2, .one (.c (.ptr 0 0)))], [], [(0, [.d (.int .i64 0), .d (.int .u64 0)])], 1⟩ [] (by kernel_rfl) trivial ?_
  rcases iteS h with ⟨b605_e0, h⟩ | ⟨b605_e0, h⟩
  · refine At.step hm ht ⟨[], [true], [], [2], [0]⟩ 2 ⟨[(2, .one (.c (.ptr 0 0)))], [], [(0, [.d (.int .i64 0), .d (.int .u64 0)])], 1⟩ [is_ = true] (by kernel_rfl) ⟨b605_e0, trivial⟩ ?_
    obtain ⟨r606_0, cr606_0, h⟩ := bindS h
    have h := Option.some.inj h
    subst h
    exact At.fin hm ht ⟨[(0, .call [] [] (f77_pack_B_out r606_0))], [], [], [2], [0]⟩ [FnOK Go.Proofs.Try.prog 77 (f77_pack_B_in 1) (f77_pack_B_out r606_0), 0 + 2 ≤ 2] (by kernel_rfl) ⟨(f77_pack_B_ok 1 r606_0 cr606_0), (by decide), trivial⟩
  · refine At.step hm ht ⟨[], [false], [], [2], [0]⟩ 3 ⟨[(2, .one (.c (.ptr 0 0)))], [], [(0, [.d (.int .i64 0), .d (.int .u64 0)])], 1⟩ [is_ = false] (by kernel_rfl) ⟨b605_e0, trivial⟩ ?_
    obtain ⟨r607_0, cr607_0, h⟩ := bindS h
    have h := Option.some.inj h
    subst h
    exact At.fin hm ht ⟨[(0, .call [] [] (f77_pack_B_out r607_0))], [], [], [2], [0]⟩ [FnOK Go.Proofs.Try.prog 77 (f77_pack_B_in 0) (f77_pack_B_out r607_0), 0 + 2 ≤ 2] (by kernel_rfl) ⟨(f77_pack_B_ok 0 r607_0 cr607_0), (by decide), trivial⟩
/-! (brougham/opt.Word).Option -/
def f29_opt_Word_Option_in (w__0 : Int) (w__1 : Int) (w__2 : Int) (w__3 : Int) (w__4 : Bool) (w__5 : Int) : Inn := ⟨[.agg [.d (.int .u8 w__0), .d (.int .u32 w__1), .d (.int .u8 w__2), .d (.int .u8 w__3), .d (.bool w__4), .d (.int .u64 w__5)]], [], [], 0⟩
def f29_opt_Word_Option_out (r : Int × List Int) : Out := ⟨.one (.agg [.d (.int .u8 r.1), .own 1 (.int .u8) r.2]), [(1, ⟨5, 0⟩)], [(0, [.d (.int .u8 r.1), .own 1 (.int .u8) r.2])], 2⟩
def f29_opt_Word_Option (n : Nat) (w__0 : Int) (w__1 : Int) (w__2 : Int) (w__3 : Int) (w__4 : Bool) (w__5 : Int) : Option (Int × List Int) :=
  (f76_pack_W w__1).bind fun r603_0 =>
  (f77_pack_B w__2).bind fun r603_1 =>
  (f77_pack_B w__3).bind fun r603_2 =>
  (f78_pack_Flag w__4).bind fun r603_3 =>
  (f74_pack_Q w__5).bind fun r603_4 =>
  (f73_pack_Put n [] [r603_0, r603_1, r603_2, r603_3, r603_4]).bind fun r603_5 =>
  some (w__0, r603_5)
theorem f29_opt_Word_Option_ok (n : Nat) (w__0 : Int) (w__1 : Int) (w__2 : Int) (w__3 : Int) (w__4 : Bool) (w__5 : Int) (r : Int × List Int) (h : f29_opt_Word_Option n w__0 w__1 w__2 w__3 w__4 w__5 = some r) : FnOK Go.Proofs.Try.prog 29 (f29_opt_Word_Option_in w__0 w__1 w__2 w__3 w__4 w__5) (f29_opt_Word_Option_out r) := by
  unfold f29_opt_Word_Option at h
  refine At.fn (r := 0) Go.Proofs.Try.func29 rfl (by kernel_rfl) rfl rfl (by kernel_rfl) ?_
  show At Go.Proofs.Try.prog Go.Proofs.Try.f29 0 0 ⟨[(0, .one (.agg [.d (.int .u8 w__0), .d (.int .u32 w__1), .d (.int .u8 w__2), .d (.int .u8 w__3), .d (.bool w__4), .d (.int .u64 w__5)]))], [], [], 0⟩ _
  refine At.step hm ht ⟨[], [], [], [1, 2], [0, 1]⟩ 1 ⟨[(1, .one (.c (.ptr 0 0))), (2, .one (.c (.ptr 1 0)))], [], [(0, [.d (.int .u8 w__0), .d (.int .u32 w__1), .d (.int .u8 w__2), .d (.int .u8 w__3), .d (.bool w__4), .d (.int .u64 w__5)]), (1, [.d (.int .u8 0), .d (.sl .unit [])])], 2⟩ [] (by kernel_rfl) trivial ?_
  obtain ⟨r603_0, cr603_0, h⟩ := bindS h
  obtain ⟨r603_1, cr603_1, h⟩ := bindS h
  obtain ⟨r603_2, cr603_2, h⟩ := bindS h
  obtain ⟨r603_3, cr603_3, h⟩ := bindS h
  obtain ⟨r603_4, cr603_4, h⟩ := bindS h
  obtain ⟨r603_5, cr603_5, h⟩ := bindS h
  have h := Option.some.inj h
  subst h
  exact At.fin hm ht ⟨[(4, .call [] [] (f76_pack_W_out r603_0)), (7, .call [] [] (f77_pack_B_out r603_1)), (10, .call [] [] (f77_pack_B_out r603_2)), (13, .call [] [] (f78_pack_Flag_out r603_3)), (17, .call [] [] (f74_pack_Q_out r603_4)), (19, .call [] [(0, 0, (.int .u8))] (f73_pack_Put_out r603_5))], [], [], [2], [1, 21]⟩ [FnOK Go.Proofs.Try.prog 76 (f76_pack_W_in w__1) (f76_pack_W_out r603_0), FnOK Go.Proofs.Try.prog 77 (f77_pack_B_in w__2) (f77_pack_B_out r603_1), FnOK Go.Proofs.Try.prog 77 (f77_pack_B_in w__3) (f77_pack_B_out r603_2), FnOK Go.Proofs.Try.prog 78 (f78_pack_Flag_in w__4) (f78_pack_Flag_out r603_3), FnOK Go.Proofs.Try.prog 74 (f74_pack_Q_in w__5) (f74_pack_Q_out r603_4), FnOK Go.Proofs.Try.prog 73 (f73_pack_Put_in [] [r603_0, r603_1, r603_2, r603_3, r603_4]) (f73_pack_Put_out r603_5), 0 + 2 ≤ 2] (by kernel_rfl) ⟨(f76_pack_W_ok w__1 r603_0 cr603_0), (f77_pack_B_ok w__2 r603_1 cr603_1), (f77_pack_B_ok w__3 r603_2 cr603_2), (f78_pack_Flag_ok w__4 r603_3 cr603_3), (f74_pack_Q_ok w__5 r603_4 cr603_4), (f73_pack_Put_ok n [] [r603_0, r603_1, r603_2, r603_3, r603_4] r603_5 cr603_5), (by decide), trivial⟩
/-! brougham/broughamref07.SameOption -/
def f18_broughamref07_SameOption_in (a_0 : Int) (a_1 : List Int) (b_0 : Int) (b_1 : List Int) : Inn := ⟨[.agg [.d (.int .u8 a_0), .d (.sl (.int .u8) a_1)], .agg [.d (.int .u8 b_0), .d (.sl (.int .u8) b_1)]], [], [], 0⟩
def f18_broughamref07_SameOption_out (r : Bool) : Out := ⟨.one (.c (.d (.bool r))), [], [], 0⟩
def f18_broughamref07_SameOption (a_0 : Int) (a_1 : List Int) (b_0 : Int) (b_1 : List Int) : Option (Bool) :=
  if ((a_0 : Int) == b_0) = true then
    some ((strOfNums a_1).toList == (strOfNums b_1).toList)
  else
    some false
theorem f18_broughamref07_SameOption_ok (a_0 : Int) (a_1 : List Int) (b_0 : Int) (b_1 : List Int) (r : Bool) (h : f18_broughamref07_SameOption a_0 a_1 b_0 b_1 = some r) : FnOK Go.Proofs.Try.prog 18 (f18_broughamref07_SameOption_in a_0 a_1 b_0 b_1) (f18_broughamref07_SameOption_out r) := by
  unfold f18_broughamref07_SameOption at h
  refine At.fn (r := 0) Go.Proofs.Try.func18 rfl (by kernel_rfl) rfl rfl (by kernel_rfl) ?_
  show At Go.Proofs.Try.prog Go.Proofs.Try.f18 0 0 ⟨[(0, .one (.agg [.d (.int .u8 a_0), .d (.sl (.int .u8) a_1)])), (1, .one (.agg [.d (.int .u8 b_0), .d (.sl (.int .u8) b_1)]))], [], [], 0⟩ _
  refine At.step hm ht ⟨[], [], [], [2, 3], [0, 1]⟩ 1 ⟨[(2, .one (.c (.ptr 0 0))), (3, .one (.c (.ptr 1 0)))], [], [(0, [.d (.int .u8 a_0), .d (.sl (.int .u8) a_1)]), (1, [.d (.int .u8 b_0), .d (.sl (.int .u8) b_1)])], 2⟩ [] (by kernel_rfl) trivial ?_
  rcases iteS h with ⟨b609_5, h⟩ | ⟨b609_5, h⟩
  · have h := Option.some.inj h
    subst h
    exact At.fin hm ht ⟨[(5, .b true)], [], [], [4], []⟩ [((a_0 : Int) == b_0) = true] (by kernel_rfl) ⟨b609_5, trivial⟩
  · have h := Option.some.inj h
    subst h
    exact At.fin hm ht ⟨[(5, .b false)], [], [], [4], []⟩ [((a_0 : Int) == b_0) = false] (by kernel_rfl) ⟨b609_5, trivial⟩
/-! brougham/broughamlaw10.MacOpens -/
def f12_broughamlaw10_MacOpens_in (k_0 : Int) (k_1 : Int) (s_0 : Int) (s_1 : Int) (s_2 : Int) (s_3 : Int) (s_4 : Int) (s_5 : List (Int × List Int)) (s_6 : List Int) : Inn := ⟨[.agg [.d (.int .u64 k_0), .d (.int .u64 k_1)], .agg [.d (.int .u16 s_0), .d (.int .u16 s_1), .d (.int .u32 s_2), .d (.int .u32 s_3), .d (.int .u8 s_4), .d (.sl (.pair (.int .u8) (.slice (.int .u8))) s_5), .d (.sl (.int .u8) s_6)]], [], [], 0⟩
def f12_broughamlaw10_MacOpens_out (r : Bool) : Out := ⟨.one (.c (.d (.bool r))), [], [], 0⟩
def f12_broughamlaw10_MacOpens_L11 : Nat → (List (Int × Int × Int × Int × Bool × Int)) → (List (Int × List Int)) → Int → Option ((Bool) ⊕ (Unit))
  | 0, _, _, _ => none
  | n + 1, l, m, i =>
    if (decide ((i : Int) < ((l.length : Nat) : Int))) = true then
      if (0 : Int) ≤ i ∧ i < (((l).length : Nat) : Int) then
      (f29_opt_Word_Option n ((l.getD i.toNat (0, (0, (0, (0, (false, 0)))))).1) (((l.getD i.toNat (0, (0, (0, (0, (false, 0)))))).2).1) ((((l.getD i.toNat (0, (0, (0, (0, (false, 0)))))).2).2).1) (((((l.getD i.toNat (0, (0, (0, (0, (false, 0)))))).2).2).2).1) ((((((l.getD i.toNat (0, (0, (0, (0, (false, 0)))))).2).2).2).2).1) ((((((l.getD i.toNat (0, (0, (0, (0, (false, 0)))))).2).2).2).2).2)).bind fun r601_1 =>
      if (0 : Int) ≤ i ∧ i < (((m).length : Nat) : Int) then
      (f18_broughamref07_SameOption r601_1.1 r601_1.2 ((m.getD i.toNat (0, [])).1) ((m.getD i.toNat (0, [])).2)).bind fun r601_3 =>
      if (!r601_3) = true then
        some (.inl false)
      else
        f12_broughamlaw10_MacOpens_L11 n l m (IntKind.wrap .i64 (i + 1))
      else none
      else none
    else
      some (.inr ())
def f12_broughamlaw10_MacOpens_L11_k (w : (Bool) ⊕ (Unit)) (o : Out) : Prop := match w with
  | .inl e => o = f12_broughamlaw10_MacOpens_out e
  | .inr e => At Go.Proofs.Try.prog Go.Proofs.Try.f12 0 15 ⟨[], [], [], 0⟩ o
theorem f12_broughamlaw10_MacOpens_L11_ok (n : Nat) : ∀ (l : List (Int × Int × Int × Int × Bool × Int)) (m : List (Int × List Int)) (i : Int) (w : (Bool) ⊕ (Unit)) (h : f12_broughamlaw10_MacOpens_L11 n l m i = some w) (o : Out) (hk : f12_broughamlaw10_MacOpens_L11_k w o), At Go.Proofs.Try.prog Go.Proofs.Try.f12 0 11 ⟨[(10, .one (.c (.own 0 (.pair (.int .u8) (.pair (.int .u32) (.pair (.int .u8) (.pair (.int .u8) (.pair .bool (.int .u64)))))) l))), (11, .one (.c (.own 1 (.pair (.int .u8) (.slice (.int .u8))) m))), (12, .one (.c (.d (.int .i64 i))))], [(0, some ⟨46, 0⟩), (1, some ⟨30, 0⟩)], [], 2⟩ o := by
  induction n with
  | zero => intro l m i w h; rw [f12_broughamlaw10_MacOpens_L11] at h; cases h
  | succ n ih =>
    intro l m i w h o hk
    rw [f12_broughamlaw10_MacOpens_L11] at h
    rcases iteS h with ⟨b600_e0, h⟩ | ⟨b600_e0, h⟩
    · refine At.step hm ht ⟨[], [true], [], [10, 11, 12], [0, 1]⟩ 13 ⟨[(10, .one (.c (.own 0 (.pair (.int .u8) (.pair (.int .u32) (.pair (.int .u8) (.pair (.int .u8) (.pair .bool (.int .u64)))))) l))), (11, .one (.c (.own 1 (.pair (.int .u8) (.slice (.int .u8))) m))), (12, .one (.c (.d (.int .i64 i))))], [(0, some ⟨46, 0⟩), (1, some ⟨30, 0⟩)], [], 2⟩ [(decide ((i : Int) < ((l.length : Nat) : Int))) = true] (by kernel_rfl) ⟨b600_e0, trivial⟩ ?_
      obtain ⟨g601_0, h⟩ := ifS h
      obtain ⟨r601_1, cr601_1, h⟩ := bindS h
      obtain ⟨g601_2, h⟩ := ifS h
      obtain ⟨r601_3, cr601_3, h⟩ := bindS h
      rcases iteS h with ⟨b601_e0, h⟩ | ⟨b601_e0, h⟩
      · refine At.step hm ht ⟨[(4, .call [] [] (f29_opt_Word_Option_out r601_1)), (9, .call [] [] (f18_broughamref07_SameOption_out r601_3))], [true], [], [], []⟩ 14 ⟨[], [], [], 0⟩ [(0 : Int) ≤ i ∧ i < (((l).length : Nat) : Int), FnOK Go.Proofs.Try.prog 29 (f29_opt_Word_Option_in ((l.getD i.toNat (0, (0, (0, (0, (false, 0)))))).1) (((l.getD i.toNat (0, (0, (0, (0, (false, 0)))))).2).1) ((((l.getD i.toNat (0, (0, (0, (0, (false, 0)))))).2).2).1) (((((l.getD i.toNat (0, (0, (0, (0, (false, 0)))))).2).2).2).1) ((((((l.getD i.toNat (0, (0, (0, (0, (false, 0)))))).2).2).2).2).1) ((((((l.getD i.toNat (0, (0, (0, (0, (false, 0)))))).2).2).2).2).2)) (f29_opt_Word_Option_out r601_1), (0 : Int) ≤ i ∧ i < (((m).length : Nat) : Int), FnOK Go.Proofs.Try.prog 18 (f18_broughamref07_SameOption_in r601_1.1 r601_1.2 ((m.getD i.toNat (0, [])).1) ((m.getD i.toNat (0, [])).2)) (f18_broughamref07_SameOption_out r601_3), (!r601_3) = true] (by kernel_rfl) ⟨g601_0, (f29_opt_Word_Option_ok n ((l.getD i.toNat (0, (0, (0, (0, (false, 0)))))).1) (((l.getD i.toNat (0, (0, (0, (0, (false, 0)))))).2).1) ((((l.getD i.toNat (0, (0, (0, (0, (false, 0)))))).2).2).1) (((((l.getD i.toNat (0, (0, (0, (0, (false, 0)))))).2).2).2).1) ((((((l.getD i.toNat (0, (0, (0, (0, (false, 0)))))).2).2).2).2).1) ((((((l.getD i.toNat (0, (0, (0, (0, (false, 0)))))).2).2).2).2).2) r601_1 cr601_1), g601_2, (f18_broughamref07_SameOption_ok r601_1.1 r601_1.2 ((m.getD i.toNat (0, [])).1) ((m.getD i.toNat (0, [])).2) r601_3 cr601_3), b601_e0, trivial⟩ ?_
        have h := Option.some.inj h
        subst h
        have hk : o = f12_broughamlaw10_MacOpens_out false := hk
        subst hk
        exact At.fin hm ht ⟨[], [], [], [4], []⟩ [] (by kernel_rfl) trivial
      · refine At.step hm ht ⟨[(4, .call [] [] (f29_opt_Word_Option_out r601_1)), (9, .call [] [] (f18_broughamref07_SameOption_out r601_3))], [false], [], [10, 11, 12], [0, 1]⟩ 12 ⟨[(10, .one (.c (.own 0 (.pair (.int .u8) (.pair (.int .u32) (.pair (.int .u8) (.pair (.int .u8) (.pair .bool (.int .u64)))))) l))), (11, .one (.c (.own 1 (.pair (.int .u8) (.slice (.int .u8))) m))), (12, .one (.c (.d (.int .i64 i))))], [(0, some ⟨46, 0⟩), (1, some ⟨30, 0⟩)], [], 2⟩ [(0 : Int) ≤ i ∧ i < (((l).length : Nat) : Int), FnOK Go.Proofs.Try.prog 29 (f29_opt_Word_Option_in ((l.getD i.toNat (0, (0, (0, (0, (false, 0)))))).1) (((l.getD i.toNat (0, (0, (0, (0, (false, 0)))))).2).1) ((((l.getD i.toNat (0, (0, (0, (0, (false, 0)))))).2).2).1) (((((l.getD i.toNat (0, (0, (0, (0, (false, 0)))))).2).2).2).1) ((((((l.getD i.toNat (0, (0, (0, (0, (false, 0)))))).2).2).2).2).1) ((((((l.getD i.toNat (0, (0, (0, (0, (false, 0)))))).2).2).2).2).2)) (f29_opt_Word_Option_out r601_1), (0 : Int) ≤ i ∧ i < (((m).length : Nat) : Int), FnOK Go.Proofs.Try.prog 18 (f18_broughamref07_SameOption_in r601_1.1 r601_1.2 ((m.getD i.toNat (0, [])).1) ((m.getD i.toNat (0, [])).2)) (f18_broughamref07_SameOption_out r601_3), (!r601_3) = false] (by kernel_rfl) ⟨g601_0, (f29_opt_Word_Option_ok n ((l.getD i.toNat (0, (0, (0, (0, (false, 0)))))).1) (((l.getD i.toNat (0, (0, (0, (0, (false, 0)))))).2).1) ((((l.getD i.toNat (0, (0, (0, (0, (false, 0)))))).2).2).1) (((((l.getD i.toNat (0, (0, (0, (0, (false, 0)))))).2).2).2).1) ((((((l.getD i.toNat (0, (0, (0, (0, (false, 0)))))).2).2).2).2).1) ((((((l.getD i.toNat (0, (0, (0, (0, (false, 0)))))).2).2).2).2).2) r601_1 cr601_1), g601_2, (f18_broughamref07_SameOption_ok r601_1.1 r601_1.2 ((m.getD i.toNat (0, [])).1) ((m.getD i.toNat (0, [])).2) r601_3 cr601_3), b601_e0, trivial⟩ ?_
        refine At.step hm ht ⟨[], [], [], [10, 11, 12], [0, 1]⟩ 11 ⟨[(10, .one (.c (.own 0 (.pair (.int .u8) (.pair (.int .u32) (.pair (.int .u8) (.pair (.int .u8) (.pair .bool (.int .u64)))))) l))), (11, .one (.c (.own 1 (.pair (.int .u8) (.slice (.int .u8))) m))), (12, .one (.c (.d (.int .i64 (IntKind.wrap .i64 (i + 1))))))], [(0, some ⟨46, 0⟩), (1, some ⟨30, 0⟩)], [], 2⟩ [] (by kernel_rfl) trivial ?_
        exact ih l m (IntKind.wrap .i64 (i + 1)) w h o hk
    · refine At.step hm ht ⟨[], [false], [], [], []⟩ 15 ⟨[], [], [], 0⟩ [(decide ((i : Int) < ((l.length : Nat) : Int))) = false] (by kernel_rfl) ⟨b600_e0, trivial⟩ ?_
      have h := Option.some.inj h
      subst h
      exact hk
def f12_broughamlaw10_MacOpens (n : Nat) (k_0 : Int) (k_1 : Int) (s_0 : Int) (s_1 : Int) (s_2 : Int) (s_3 : Int) (s_4 : Int) (s_5 : List (Int × List Int)) (s_6 : List Int) : Option (Bool) :=
  (f15_broughamlaw07_Great n s_0 s_1 s_2 s_3 s_4 s_5 s_6).bind fun r305_0 =>
  if r305_0 = true then
    some true
  else
    (f58_mac_Open n k_0 k_1 s_0 s_1 s_2 s_3 s_4 s_5 s_6).bind fun r320_0 =>
    (f59_broughamref10_Open n k_0 k_1 s_0 s_1 s_2 s_3 s_4 s_5 s_6).bind fun r321_0 =>
    (f60_mac_Words n k_0 k_1 s_0 s_1 s_2 s_3 s_4 s_5 s_6).bind fun r532_0 =>
    (f61_broughamref10_Words n k_0 k_1 s_0 s_1 s_2 s_3 s_4 s_5 s_6).bind fun r564_0 =>
    if (!(r320_0.1 == r321_0.1)) = true then
      some false
    else
      if (!((r321_0.2.1 == r320_0.2.1) && ((r321_0.2.2.1 == r320_0.2.2.1) && (((r321_0.2.2.2.1 : Int) == r320_0.2.2.2.1) && (((r321_0.2.2.2.2.1 : Int) == r320_0.2.2.2.2.1) && (((r321_0.2.2.2.2.2.1 : Int) == r320_0.2.2.2.2.2.1) && ((r321_0.2.2.2.2.2.2 : Int) == r320_0.2.2.2.2.2.2))))))) = true then
        some false
      else
        if ((((r532_0.length : Nat) : Int) : Int) != ((r564_0.length : Nat) : Int)) = true then
          some false
        else
          (f12_broughamlaw10_MacOpens_L11 n r532_0 r564_0 0).bind fun w612 =>
          match w612 with
          | .inl e613 =>
            some e613
          | .inr e614 =>
            (f57_broughamlaw10_alive n).bind fun r615_0 =>
            some r615_0
theorem f12_broughamlaw10_MacOpens_ok (n : Nat) (k_0 : Int) (k_1 : Int) (s_0 : Int) (s_1 : Int) (s_2 : Int) (s_3 : Int) (s_4 : Int) (s_5 : List (Int × List Int)) (s_6 : List Int) (r : Bool) (h : f12_broughamlaw10_MacOpens n k_0 k_1 s_0 s_1 s_2 s_3 s_4 s_5 s_6 = some r) : FnOK Go.Proofs.Try.prog 12 (f12_broughamlaw10_MacOpens_in k_0 k_1 s_0 s_1 s_2 s_3 s_4 s_5 s_6) (f12_broughamlaw10_MacOpens_out r) := by
  unfold f12_broughamlaw10_MacOpens at h
  refine At.fn (r := 0) Go.Proofs.Try.func12 rfl (by kernel_rfl) rfl rfl (by kernel_rfl) ?_
  show At Go.Proofs.Try.prog Go.Proofs.Try.f12 0 0 ⟨[(0, .one (.agg [.d (.int .u64 k_0), .d (.int .u64 k_1)])), (1, .one (.agg [.d (.int .u16 s_0), .d (.int .u16 s_1), .d (.int .u32 s_2), .d (.int .u32 s_3), .d (.int .u8 s_4), .d (.sl (.pair (.int .u8) (.slice (.int .u8))) s_5), .d (.sl (.int .u8) s_6)]))], [], [], 0⟩ _
  refine At.step hm ht ⟨[], [], [], [2, 3], [0, 1]⟩ 1 ⟨[(2, .one (.c (.ptr 0 0))), (3, .one (.c (.ptr 1 0)))], [], [(0, [.d (.int .u64 k_0), .d (.int .u64 k_1)]), (1, [.d (.int .u16 s_0), .d (.int .u16 s_1), .d (.int .u32 s_2), .d (.int .u32 s_3), .d (.int .u8 s_4), .d (.sl (.pair (.int .u8) (.slice (.int .u8))) s_5), .d (.sl (.int .u8) s_6)])], 2⟩ [] (by kernel_rfl) trivial ?_
  obtain ⟨r305_0, cr305_0, h⟩ := bindS h
  rcases iteS h with ⟨b305_e0, h⟩ | ⟨b305_e0, h⟩
  · refine At.step hm ht ⟨[(1, .call [] [] (f15_broughamlaw07_Great_out r305_0))], [true], [], [], []⟩ 2 ⟨[], [], [], 0⟩ [FnOK Go.Proofs.Try.prog 15 (f15_broughamlaw07_Great_in s_0 s_1 s_2 s_3 s_4 s_5 s_6) (f15_broughamlaw07_Great_out r305_0), r305_0 = true] (by kernel_rfl) ⟨(f15_broughamlaw07_Great_ok n s_0 s_1 s_2 s_3 s_4 s_5 s_6 r305_0 cr305_0), b305_e0, trivial⟩ ?_
    have h := Option.some.inj h
    subst h
    exact At.fin hm ht ⟨[], [], [], [4], []⟩ [] (by kernel_rfl) trivial
  · refine At.step hm ht ⟨[(1, .call [] [] (f15_broughamlaw07_Great_out r305_0))], [false], [], [2, 3], [0, 1]⟩ 3 ⟨[(2, .one (.c (.ptr 0 0))), (3, .one (.c (.ptr 1 0)))], [], [(0, [.d (.int .u64 k_0), .d (.int .u64 k_1)]), (1, [.d (.int .u16 s_0), .d (.int .u16 s_1), .d (.int .u32 s_2), .d (.int .u32 s_3), .d (.int .u8 s_4), .d (.sl (.pair (.int .u8) (.slice (.int .u8))) s_5), .d (.sl (.int .u8) s_6)])], 2⟩ [FnOK Go.Proofs.Try.prog 15 (f15_broughamlaw07_Great_in s_0 s_1 s_2 s_3 s_4 s_5 s_6) (f15_broughamlaw07_Great_out r305_0), r305_0 = false] (by kernel_rfl) ⟨(f15_broughamlaw07_Great_ok n s_0 s_1 s_2 s_3 s_4 s_5 s_6 r305_0 cr305_0), b305_e0, trivial⟩ ?_
    obtain ⟨r320_0, cr320_0, h⟩ := bindS h
    refine At.step hm ht ⟨[(2, .call [] [] (f58_mac_Open_out r320_0))], [], [], [2, 3, 5, 6], [0, 1, 8]⟩ 4 ⟨[(2, .one (.c (.ptr 0 0))), (3, .one (.c (.ptr 1 0))), (5, .one (.c (.ptr 2 0))), (6, .one (.c (.d (.bool r320_0.1))))], [], [(0, [.d (.int .u64 k_0), .d (.int .u64 k_1)]), (1, [.d (.int .u16 s_0), .d (.int .u16 s_1), .d (.int .u32 s_2), .d (.int .u32 s_3), .d (.int .u8 s_4), .d (.sl (.pair (.int .u8) (.slice (.int .u8))) s_5), .d (.sl (.int .u8) s_6)]), (2, [.d (.bool r320_0.2.1), .d (.bool r320_0.2.2.1), .d (.int .u64 r320_0.2.2.2.1), .d (.int .u64 r320_0.2.2.2.2.1), .d (.int .u32 r320_0.2.2.2.2.2.1), .d (.int .u64 r320_0.2.2.2.2.2.2)])], 3⟩ [FnOK Go.Proofs.Try.prog 58 (f58_mac_Open_in k_0 k_1 s_0 s_1 s_2 s_3 s_4 s_5 s_6) (f58_mac_Open_out r320_0), 0 + 6 ≤ 6] (by kernel_rfl) ⟨(f58_mac_Open_ok n k_0 k_1 s_0 s_1 s_2 s_3 s_4 s_5 s_6 r320_0 cr320_0), (by decide), trivial⟩ ?_
    obtain ⟨r321_0, cr321_0, h⟩ := bindS h
    refine At.step hm ht ⟨[(2, .call [] [] (f59_broughamref10_Open_out r321_0))], [], [], [2, 3, 5, 6, 7, 8], [0, 1, 2, 9]⟩ 5 ⟨[(2, .one (.c (.ptr 0 0))), (3, .one (.c (.ptr 1 0))), (5, .one (.c (.ptr 2 0))), (6, .one (.c (.d (.bool r320_0.1)))), (7, .one (.c (.ptr 3 0))), (8, .one (.c (.d (.bool r321_0.1))))], [], [(0, [.d (.int .u64 k_0), .d (.int .u64 k_1)]), (1, [.d (.int .u16 s_0), .d (.int .u16 s_1), .d (.int .u32 s_2), .d (.int .u32 s_3), .d (.int .u8 s_4), .d (.sl (.pair (.int .u8) (.slice (.int .u8))) s_5), .d (.sl (.int .u8) s_6)]), (2, [.d (.bool r320_0.2.1), .d (.bool r320_0.2.2.1), .d (.int .u64 r320_0.2.2.2.1), .d (.int .u64 r320_0.2.2.2.2.1), .d (.int .u32 r320_0.2.2.2.2.2.1), .d (.int .u64 r320_0.2.2.2.2.2.2)]), (3, [.d (.bool r321_0.2.1), .d (.bool r321_0.2.2.1), .d (.int .u64 r321_0.2.2.2.1), .d (.int .u64 r321_0.2.2.2.2.1), .d (.int .u32 r321_0.2.2.2.2.2.1), .d (.int .u64 r321_0.2.2.2.2.2.2)])], 4⟩ [FnOK Go.Proofs.Try.prog 59 (f59_broughamref10_Open_in k_0 k_1 s_0 s_1 s_2 s_3 s_4 s_5 s_6) (f59_broughamref10_Open_out r321_0), 0 + 6 ≤ 6] (by kernel_rfl) ⟨(f59_broughamref10_Open_ok n k_0 k_1 s_0 s_1 s_2 s_3 s_4 s_5 s_6 r321_0 cr321_0), (by decide), trivial⟩ ?_
    refine At.step hm ht ⟨[], [], [], [2, 3, 6, 7, 8, 9], [0, 1, 3, 18]⟩ 6 ⟨[(2, .one (.c (.ptr 0 0))), (3, .one (.c (.ptr 1 0))), (6, .one (.c (.d (.bool r320_0.1)))), (7, .one (.c (.ptr 2 0))), (8, .one (.c (.d (.bool r321_0.1)))), (9, .one (.c (.ptr 3 0)))], [], [(0, [.d (.int .u64 k_0), .d (.int .u64 k_1)]), (1, [.d (.int .u16 s_0), .d (.int .u16 s_1), .d (.int .u32 s_2), .d (.int .u32 s_3), .d (.int .u8 s_4), .d (.sl (.pair (.int .u8) (.slice (.int .u8))) s_5), .d (.sl (.int .u8) s_6)]), (2, [.d (.bool r321_0.2.1), .d (.bool r321_0.2.2.1), .d (.int .u64 r321_0.2.2.2.1), .d (.int .u64 r321_0.2.2.2.2.1), .d (.int .u32 r321_0.2.2.2.2.2.1), .d (.int .u64 r321_0.2.2.2.2.2.2)]), (3, [.d (.bool r320_0.2.1), .d (.bool r320_0.2.2.1), .d (.int .u64 r320_0.2.2.2.1), .d (.int .u64 r320_0.2.2.2.2.1), .d (.int .u32 r320_0.2.2.2.2.2.1), .d (.int .u64 r320_0.2.2.2.2.2.2)])], 4⟩ [0 + 6 ≤ 6] (by kernel_rfl) ⟨(by decide), trivial⟩ ?_
    obtain ⟨r532_0, cr532_0, h⟩ := bindS h
    refine At.step hm ht ⟨[(2, .call [] [] (f60_mac_Words_out r532_0))], [], [], [2, 3, 6, 7, 8, 9, 10], [0, 1, 2, 3, 6]⟩ 7 ⟨[(2, .one (.c (.ptr 0 0))), (3, .one (.c (.ptr 1 0))), (6, .one (.c (.d (.bool r320_0.1)))), (7, .one (.c (.ptr 2 0))), (8, .one (.c (.d (.bool r321_0.1)))), (9, .one (.c (.ptr 3 0))), (10, .one (.c (.own 4 (.pair (.int .u8) (.pair (.int .u32) (.pair (.int .u8) (.pair (.int .u8) (.pair .bool (.int .u64)))))) r532_0)))], [(4, some ⟨46, 0⟩)], [(0, [.d (.int .u64 k_0), .d (.int .u64 k_1)]), (1, [.d (.int .u16 s_0), .d (.int .u16 s_1), .d (.int .u32 s_2), .d (.int .u32 s_3), .d (.int .u8 s_4), .d (.sl (.pair (.int .u8) (.slice (.int .u8))) s_5), .d (.sl (.int .u8) s_6)]), (2, [.d (.bool r321_0.2.1), .d (.bool r321_0.2.2.1), .d (.int .u64 r321_0.2.2.2.1), .d (.int .u64 r321_0.2.2.2.2.1), .d (.int .u32 r321_0.2.2.2.2.2.1), .d (.int .u64 r321_0.2.2.2.2.2.2)]), (3, [.d (.bool r320_0.2.1), .d (.bool r320_0.2.2.1), .d (.int .u64 r320_0.2.2.2.1), .d (.int .u64 r320_0.2.2.2.2.1), .d (.int .u32 r320_0.2.2.2.2.2.1), .d (.int .u64 r320_0.2.2.2.2.2.2)])], 5⟩ [FnOK Go.Proofs.Try.prog 60 (f60_mac_Words_in k_0 k_1 s_0 s_1 s_2 s_3 s_4 s_5 s_6) (f60_mac_Words_out r532_0)] (by kernel_rfl) ⟨(f60_mac_Words_ok n k_0 k_1 s_0 s_1 s_2 s_3 s_4 s_5 s_6 r532_0 cr532_0), trivial⟩ ?_
    obtain ⟨r564_0, cr564_0, h⟩ := bindS h
    refine At.step hm ht ⟨[(2, .call [] [] (f61_broughamref10_Words_out r564_0))], [], [], [6, 7, 8, 9, 10, 11], [2, 3, 4, 7]⟩ 8 ⟨[(6, .one (.c (.d (.bool r320_0.1)))), (7, .one (.c (.ptr 0 0))), (8, .one (.c (.d (.bool r321_0.1)))), (9, .one (.c (.ptr 1 0))), (10, .one (.c (.own 2 (.pair (.int .u8) (.pair (.int .u32) (.pair (.int .u8) (.pair (.int .u8) (.pair .bool (.int .u64)))))) r532_0))), (11, .one (.c (.own 3 (.pair (.int .u8) (.slice (.int .u8))) r564_0)))], [(2, some ⟨46, 0⟩), (3, some ⟨30, 0⟩)], [(0, [.d (.bool r321_0.2.1), .d (.bool r321_0.2.2.1), .d (.int .u64 r321_0.2.2.2.1), .d (.int .u64 r321_0.2.2.2.2.1), .d (.int .u32 r321_0.2.2.2.2.2.1), .d (.int .u64 r321_0.2.2.2.2.2.2)]), (1, [.d (.bool r320_0.2.1), .d (.bool r320_0.2.2.1), .d (.int .u64 r320_0.2.2.2.1), .d (.int .u64 r320_0.2.2.2.2.1), .d (.int .u32 r320_0.2.2.2.2.2.1), .d (.int .u64 r320_0.2.2.2.2.2.2)])], 4⟩ [FnOK Go.Proofs.Try.prog 61 (f61_broughamref10_Words_in k_0 k_1 s_0 s_1 s_2 s_3 s_4 s_5 s_6) (f61_broughamref10_Words_out r564_0)] (by kernel_rfl) ⟨(f61_broughamref10_Words_ok n k_0 k_1 s_0 s_1 s_2 s_3 s_4 s_5 s_6 r564_0 cr564_0), trivial⟩ ?_
    rcases iteS h with ⟨b595_3, h⟩ | ⟨b595_3, h⟩
    · refine At.step hm ht ⟨[(3, .b true)], [true], [], [], []⟩ 9 ⟨[], [], [], 0⟩ [(!(r320_0.1 == r321_0.1)) = true, true = true] (by kernel_rfl) ⟨b595_3, rfl, trivial⟩ ?_
      have h := Option.some.inj h
      subst h
      exact At.fin hm ht ⟨[], [], [], [4], []⟩ [] (by kernel_rfl) trivial
    · rcases iteS h with ⟨b595_8, h⟩ | ⟨b595_8, h⟩
      · refine At.step hm ht ⟨[(3, .b false), (8, .b true)], [true], [], [], []⟩ 9 ⟨[], [], [], 0⟩ [(!(r320_0.1 == r321_0.1)) = false, (!((r321_0.2.1 == r320_0.2.1) && ((r321_0.2.2.1 == r320_0.2.2.1) && (((r321_0.2.2.2.1 : Int) == r320_0.2.2.2.1) && (((r321_0.2.2.2.2.1 : Int) == r320_0.2.2.2.2.1) && (((r321_0.2.2.2.2.2.1 : Int) == r320_0.2.2.2.2.2.1) && ((r321_0.2.2.2.2.2.2 : Int) == r320_0.2.2.2.2.2.2))))))) = true, true = true] (by kernel_rfl) ⟨b595_3, b595_8, rfl, trivial⟩ ?_
        have h := Option.some.inj h
        subst h
        exact At.fin hm ht ⟨[], [], [], [4], []⟩ [] (by kernel_rfl) trivial
      · rcases iteS h with ⟨b595_e0, h⟩ | ⟨b595_e0, h⟩
        · refine At.step hm ht ⟨[(3, .b false), (8, .b false)], [true], [], [], []⟩ 9 ⟨[], [], [], 0⟩ [(!(r320_0.1 == r321_0.1)) = false, (!((r321_0.2.1 == r320_0.2.1) && ((r321_0.2.2.1 == r320_0.2.2.1) && (((r321_0.2.2.2.1 : Int) == r320_0.2.2.2.1) && (((r321_0.2.2.2.2.1 : Int) == r320_0.2.2.2.2.1) && (((r321_0.2.2.2.2.2.1 : Int) == r320_0.2.2.2.2.2.1) && ((r321_0.2.2.2.2.2.2 : Int) == r320_0.2.2.2.2.2.2))))))) = false, ((((r532_0.length : Nat) : Int) : Int) != ((r564_0.length : Nat) : Int)) = true] (by kernel_rfl) ⟨b595_3, b595_8, b595_e0, trivial⟩ ?_
          have h := Option.some.inj h
          subst h
          exact At.fin hm ht ⟨[], [], [], [4], []⟩ [] (by kernel_rfl) trivial
        · refine At.step hm ht ⟨[(3, .b false), (8, .b false)], [false], [], [10, 11], [2, 3]⟩ 10 ⟨[(10, .one (.c (.own 0 (.pair (.int .u8) (.pair (.int .u32) (.pair (.int .u8) (.pair (.int .u8) (.pair .bool (.int .u64)))))) r532_0))), (11, .one (.c (.own 1 (.pair (.int .u8) (.slice (.int .u8))) r564_0)))], [(0, some ⟨46, 0⟩), (1, some ⟨30, 0⟩)], [], 2⟩ [(!(r320_0.1 == r321_0.1)) = false, (!((r321_0.2.1 == r320_0.2.1) && ((r321_0.2.2.1 == r320_0.2.2.1) && (((r321_0.2.2.2.1 : Int) == r320_0.2.2.2.1) && (((r321_0.2.2.2.2.1 : Int) == r320_0.2.2.2.2.1) && (((r321_0.2.2.2.2.2.1 : Int) == r320_0.2.2.2.2.2.1) && ((r321_0.2.2.2.2.2.2 : Int) == r320_0.2.2.2.2.2.2))))))) = false, ((((r532_0.length : Nat) : Int) : Int) != ((r564_0.length : Nat) : Int)) = false] (by kernel_rfl) ⟨b595_3, b595_8, b595_e0, trivial⟩ ?_
          refine At.step hm ht ⟨[], [], [], [10, 11, 12], [0, 1]⟩ 11 ⟨[(10, .one (.c (.own 0 (.pair (.int .u8) (.pair (.int .u32) (.pair (.int .u8) (.pair (.int .u8) (.pair .bool (.int .u64)))))) r532_0))), (11, .one (.c (.own 1 (.pair (.int .u8) (.slice (.int .u8))) r564_0))), (12, .one (.c (.d (.int .i64 0))))], [(0, some ⟨46, 0⟩), (1, some ⟨30, 0⟩)], [], 2⟩ [] (by kernel_rfl) trivial ?_
          obtain ⟨w612, cw612, h⟩ := bindS h
          refine f12_broughamlaw10_MacOpens_L11_ok n r532_0 r564_0 0 w612 cw612 _ ?_
          rcases w612 with e613 | e614
          · have h := Option.some.inj h
            subst h
            rfl
          · show At Go.Proofs.Try.prog Go.Proofs.Try.f12 0 15 ⟨[], [], [], 0⟩ _
            obtain ⟨r615_0, cr615_0, h⟩ := bindS h
            have h := Option.some.inj h
            subst h
            exact At.fin hm ht ⟨[(0, .call [] [] (f57_broughamlaw10_alive_out r615_0))], [], [], [4], []⟩ [FnOK Go.Proofs.Try.prog 57 (f57_broughamlaw10_alive_in) (f57_broughamlaw10_alive_out r615_0)] (by kernel_rfl) ⟨(f57_broughamlaw10_alive_ok n r615_0 cr615_0), trivial⟩
/-! (*brougham/opt.Tagged).Seal -/
def f72_opt_Tagged_Seal_v2_in (tag : Int) (t_0 : Int) (t_1 : Int) (t_2 : Int) (t_3 : Int) (t_4 : Bool) (t_5 : Int) : Inn := ⟨[.c (.ptr 0 5), .c (.d (.int .u64 tag))], [], [(0, [.d (.int .u8 t_0), .d (.int .u32 t_1), .d (.int .u8 t_2), .d (.int .u8 t_3), .d (.bool t_4), .d (.int .u64 t_5)])], 1⟩
def f72_opt_Tagged_Seal_v2_out (r : Int × Int × Int × Int × Bool × Int) : Out := ⟨.tup [], [], [(0, [.d (.int .u8 r.1), .d (.int .u32 r.2.1), .d (.int .u8 r.2.2.1), .d (.int .u8 r.2.2.2.1), .d (.bool r.2.2.2.2.1), .d (.int .u64 r.2.2.2.2.2)])], 1⟩
def f72_opt_Tagged_Seal_v2 (tag : Int) (t_0 : Int) (t_1 : Int) (t_2 : Int) (t_3 : Int) (t_4 : Bool) (t_5 : Int) : Option (Int × Int × Int × Int × Bool × Int) :=
  some (t_0, t_1, t_2, t_3, t_4, tag)
theorem f72_opt_Tagged_Seal_v2_ok (tag : Int) (t_0 : Int) (t_1 : Int) (t_2 : Int) (t_3 : Int) (t_4 : Bool) (t_5 : Int) (r : Int × Int × Int × Int × Bool × Int) (h : f72_opt_Tagged_Seal_v2 tag t_0 t_1 t_2 t_3 t_4 t_5 = some r) : FnOK Go.Proofs.Try.prog 72 (f72_opt_Tagged_Seal_v2_in tag t_0 t_1 t_2 t_3 t_4 t_5) (f72_opt_Tagged_Seal_v2_out r) := by
  unfold f72_opt_Tagged_Seal_v2 at h
  refine At.fn (r := 0) Go.Proofs.Try.func72 rfl (by kernel_rfl) rfl rfl (by kernel_rfl) ?_
  show At Go.Proofs.Try.prog Go.Proofs.Try.f72 1 0 ⟨[(0, .one (.c (.ptr 0 5))), (1, .one (.c (.d (.int .u64 tag))))], [], [(0, [.d (.int .u8 t_0), .d (.int .u32 t_1), .d (.int .u8 t_2), .d (.int .u8 t_3), .d (.bool t_4), .d (.int .u64 t_5)])], 1⟩ _
  have h := Option.some.inj h
  subst h
  exact At.fin hm ht ⟨[], [], [], [], [0]⟩ [5 + 1 ≤ 6] (by kernel_rfl) ⟨(by decide), trivial⟩
/-! brougham/mac.Word -/
def f62_mac_Word_in (k_0 : Int) (k_1 : Int) (s_0 : Int) (s_1 : Int) (s_2 : Int) (s_3 : Int) (s_4 : Int) (s_5 : List (Int × List Int)) (s_6 : List Int) (x_0 : Int) (x_1 : Int) (x_2 : Int) (x_3 : Int) (x_4 : Bool) (x_5 : Int) : Inn := ⟨[.agg [.d (.int .u64 k_0), .d (.int .u64 k_1)], .agg [.d (.int .u16 s_0), .d (.int .u16 s_1), .d (.int .u32 s_2), .d (.int .u32 s_3), .d (.int .u8 s_4), .d (.sl (.pair (.int .u8) (.slice (.int .u8))) s_5), .d (.sl (.int .u8) s_6)], .agg [.d (.int .u8 x_0), .d (.int .u32 x_1), .d (.int .u8 x_2), .d (.int .u8 x_3), .d (.bool x_4), .d (.int .u64 x_5)]], [], [], 0⟩
def f62_mac_Word_out (r : Int × List Int) : Out := ⟨.one (.agg [.d (.int .u8 r.1), .own 1 (.int .u8) r.2]), [(1, ⟨5, 0⟩)], [(0, [.d (.int .u8 r.1), .own 1 (.int .u8) r.2])], 2⟩
def f62_mac_Word (n : Nat) (k_0 : Int) (k_1 : Int) (s_0 : Int) (s_1 : Int) (s_2 : Int) (s_3 : Int) (s_4 : Int) (s_5 : List (Int × List Int)) (s_6 : List Int) (x_0 : Int) (x_1 : Int) (x_2 : Int) (x_3 : Int) (x_4 : Bool) (x_5 : Int) : Option (Int × List Int) :=
  (f29_opt_Word_Option n x_0 x_1 x_2 x_3 x_4 x_5).bind fun r649_0 =>
  (f65_mac_Tag n k_0 k_1 s_0 s_1 s_2 s_3 s_4 s_5 s_6 r649_0.1 r649_0.2).bind fun r649_1 =>
  (f72_opt_Tagged_Seal_v2 r649_1 x_0 x_1 x_2 x_3 x_4 x_5).bind fun r649_2 =>
  (f29_opt_Word_Option n r649_2.1 r649_2.2.1 r649_2.2.2.1 r649_2.2.2.2.1 r649_2.2.2.2.2.1 r649_2.2.2.2.2.2).bind fun r651_0 =>
  some (r651_0.1, r651_0.2)
theorem f62_mac_Word_ok (n : Nat) (k_0 : Int) (k_1 : Int) (s_0 : Int) (s_1 : Int) (s_2 : Int) (s_3 : Int) (s_4 : Int) (s_5 : List (Int × List Int)) (s_6 : List Int) (x_0 : Int) (x_1 : Int) (x_2 : Int) (x_3 : Int) (x_4 : Bool) (x_5 : Int) (r : Int × List Int) (h : f62_mac_Word n k_0 k_1 s_0 s_1 s_2 s_3 s_4 s_5 s_6 x_0 x_1 x_2 x_3 x_4 x_5 = some r) : FnOK Go.Proofs.Try.prog 62 (f62_mac_Word_in k_0 k_1 s_0 s_1 s_2 s_3 s_4 s_5 s_6 x_0 x_1 x_2 x_3 x_4 x_5) (f62_mac_Word_out r) := by
  unfold f62_mac_Word at h
  refine At.fn (r := 0) Go.Proofs.Try.func62 rfl (by kernel_rfl) rfl rfl (by kernel_rfl) ?_
  show At Go.Proofs.Try.prog Go.Proofs.Try.f62 0 0 ⟨[(0, .one (.agg [.d (.int .u64 k_0), .d (.int .u64 k_1)])), (1, .one (.agg [.d (.int .u16 s_0), .d (.int .u16 s_1), .d (.int .u32 s_2), .d (.int .u32 s_3), .d (.int .u8 s_4), .d (.sl (.pair (.int .u8) (.slice (.int .u8))) s_5), .d (.sl (.int .u8) s_6)])), (2, .one (.agg [.d (.int .u8 x_0), .d (.int .u32 x_1), .d (.int .u8 x_2), .d (.int .u8 x_3), .d (.bool x_4), .d (.int .u64 x_5)]))], [], [], 0⟩ _
  refine At.step hm ht ⟨[], [], [], [3, 4, 5, 6], [0, 1, 2, 3]⟩ 1 ⟨[(3, .one (.c (.ptr 0 0))), (4, .one (.c (.ptr 1 0))), (5, .one (.c (.ptr 2 0))), (6, .one (.c (.ptr 3 0)))], [], [(0, [.d (.int .u64 k_0), .d (.int .u64 k_1)]), (1, [.d (.int .u16 s_0), .d (.int .u16 s_1), .d (.int .u32 s_2), .d (.int .u32 s_3), .d (.int .u8 s_4), .d (.sl (.pair (.int .u8) (.slice (.int .u8))) s_5), .d (.sl (.int .u8) s_6)]), (2, [.d (.int .u8 x_0), .d (.int .u32 x_1), .d (.int .u8 x_2), .d (.int .u8 x_3), .d (.bool x_4), .d (.int .u64 x_5)]), (3, [.d (.int .u8 0), .d (.sl .unit [])])], 4⟩ [] (by kernel_rfl) trivial ?_
  obtain ⟨r649_0, cr649_0, h⟩ := bindS h
  obtain ⟨r649_1, cr649_1, h⟩ := bindS h
  obtain ⟨r649_2, cr649_2, h⟩ := bindS h
  refine At.step hm ht ⟨[(4, .call [] [] (f29_opt_Word_Option_out r649_0)), (5, .call [] [] (f65_mac_Tag_out r649_1)), (6, .call [2] [] (f72_opt_Tagged_Seal_v2_out r649_2))], [], [], [5, 6], [2, 3]⟩ 2 ⟨[(5, .one (.c (.ptr 0 0))), (6, .one (.c (.ptr 1 0)))], [], [(0, [.d (.int .u8 r649_2.1), .d (.int .u32 r649_2.2.1), .d (.int .u8 r649_2.2.2.1), .d (.int .u8 r649_2.2.2.2.1), .d (.bool r649_2.2.2.2.2.1), .d (.int .u64 r649_2.2.2.2.2.2)]), (1, [.d (.int .u8 0), .d (.sl .unit [])])], 2⟩ [FnOK Go.Proofs.Try.prog 29 (f29_opt_Word_Option_in x_0 x_1 x_2 x_3 x_4 x_5) (f29_opt_Word_Option_out r649_0), FnOK Go.Proofs.Try.prog 65 (f65_mac_Tag_in k_0 k_1 s_0 s_1 s_2 s_3 s_4 s_5 s_6 r649_0.1 r649_0.2) (f65_mac_Tag_out r649_1), FnOK Go.Proofs.Try.prog 72 (f72_opt_Tagged_Seal_v2_in r649_1 x_0 x_1 x_2 x_3 x_4 x_5) (f72_opt_Tagged_Seal_v2_out r649_2)] (by kernel_rfl) ⟨(f29_opt_Word_Option_ok n x_0 x_1 x_2 x_3 x_4 x_5 r649_0 cr649_0), (f65_mac_Tag_ok n k_0 k_1 s_0 s_1 s_2 s_3 s_4 s_5 s_6 r649_0.1 r649_0.2 r649_1 cr649_1), (f72_opt_Tagged_Seal_v2_ok r649_1 x_0 x_1 x_2 x_3 x_4 x_5 r649_2 cr649_2), trivial⟩ ?_
  obtain ⟨r651_0, cr651_0, h⟩ := bindS h
  have h := Option.some.inj h
  subst h
  exact At.fin hm ht ⟨[(1, .call [] [] (f29_opt_Word_Option_out r651_0))], [], [], [6], [1, 4]⟩ [FnOK Go.Proofs.Try.prog 29 (f29_opt_Word_Option_in r649_2.1 r649_2.2.1 r649_2.2.2.1 r649_2.2.2.2.1 r649_2.2.2.2.2.1 r649_2.2.2.2.2.2) (f29_opt_Word_Option_out r651_0), 0 + 2 ≤ 2] (by kernel_rfl) ⟨(f29_opt_Word_Option_ok n r649_2.1 r649_2.2.1 r649_2.2.2.1 r649_2.2.2.2.1 r649_2.2.2.2.2.1 r649_2.2.2.2.2.2 r651_0 cr651_0), (by decide), trivial⟩
/-! brougham/broughamlaw10.MacBack -/
def f13_broughamlaw10_MacBack_in (k_0 : Int) (k_1 : Int) (s_0 : Int) (s_1 : Int) (s_2 : Int) (s_3 : Int) (s_4 : Int) (s_5 : List (Int × List Int)) (s_6 : List Int) (x_0 : Int) (x_1 : Bool) (x_2 : Int) (x_3 : Int) (x_4 : Int) (x_5 : Int) (x_6 : Bool) (x_7 : Bool) (x_8 : Int) (x_9 : Bool) (x_10 : Bool) (x_11 : Int) (x_12 : Int) (x_13 : Int) (x_14 : Int) (x_15 : Int) (x_16 : Int) (x_17 : Int) (x_18 : Int) (x_19 : Bool) (x_20 : Int) : Inn := ⟨[.agg [.d (.int .u64 k_0), .d (.int .u64 k_1)], .agg [.d (.int .u16 s_0), .d (.int .u16 s_1), .d (.int .u32 s_2), .d (.int .u32 s_3), .d (.int .u8 s_4), .d (.sl (.pair (.int .u8) (.slice (.int .u8))) s_5), .d (.sl (.int .u8) s_6)], .agg [.d (.int .u64 x_0), .d (.bool x_1), .d (.int .u64 x_2), .d (.int .u32 x_3), .d (.int .u32 x_4), .d (.int .u8 x_5), .d (.bool x_6), .d (.bool x_7), .d (.int .u64 x_8), .d (.bool x_9), .d (.bool x_10), .d (.int .u64 x_11), .d (.int .u64 x_12), .d (.int .u32 x_13), .d (.int .u64 x_14), .d (.int .u8 x_15), .d (.int .u32 x_16), .d (.int .u8 x_17), .d (.int .u8 x_18), .d (.bool x_19), .d (.int .u64 x_20)]], [], [], 0⟩
def f13_broughamlaw10_MacBack_out (r : Bool) : Out := ⟨.one (.c (.d (.bool r))), [], [], 0⟩
def f13_broughamlaw10_MacBack_L5 : Nat → (List (Int × List Int)) → Int → Int → Int → Int → Int → Int → Int → Int → (List (Int × List Int)) → (List Int) → Int → Bool → Int → Int → Int → Int → Bool → Bool → Int → Bool → Bool → Int → Int → Int → Int → Int → Int → Int → Int → Bool → Int → Option ((List (Int × List Int)) × Int × Int × Int × Int × Int × Int × Int × (List (Int × List Int)) × List Int × Int × Bool × Int × Int × Int × Int × Bool × Bool × Int × Bool × Bool × Int × Int × Int × Int × Int × Int × Int × Int × Bool × Int)
  | 0, _, _, _, _, _, _, _, _, _, _, _, _, _, _, _, _, _, _, _, _, _, _, _, _, _, _, _, _, _, _, _, _ => none
  | n + 1, l, i, k_0, k_1, s_0, s_1, s_2, s_3, s_4, s_5, s_6, x_0, x_1, x_2, x_3, x_4, x_5, x_6, x_7, x_8, x_9, x_10, x_11, x_12, x_13, x_14, x_15, x_16, x_17, x_18, x_19, x_20 =>
    if (decide ((i : Int) < ((s_5.length : Nat) : Int))) = true then
      if (0 : Int) ≤ i ∧ i < (((s_5).length : Nat) : Int) then
      if ((((s_5.getD i.toNat (0, [])).1) : Int) == 1) = true then
        if (0 : Int) ≤ i ∧ i < (((s_5).length : Nat) : Int) then
        if l.length + [(s_5.getD i.toNat (0, []))].length ≤ maxLen ∧ (l.length + [(s_5.getD i.toNat (0, []))].length) * 32 ≤ 140737488355328 then
        f13_broughamlaw10_MacBack_L5 n (l ++ [(s_5.getD i.toNat (0, []))]) (IntKind.wrap .i64 (i + 1)) k_0 k_1 s_0 s_1 s_2 s_3 s_4 s_5 s_6 x_0 x_1 x_2 x_3 x_4 x_5 x_6 x_7 x_8 x_9 x_10 x_11 x_12 x_13 x_14 x_15 x_16 x_17 x_18 x_19 x_20
        else none
        else none
      else
        if (0 : Int) ≤ i ∧ i < (((s_5).length : Nat) : Int) then
        if ((((s_5.getD i.toNat (0, [])).1) : Int) == 2) = true then
          if (0 : Int) ≤ i ∧ i < (((s_5).length : Nat) : Int) then
          if l.length + [(s_5.getD i.toNat (0, []))].length ≤ maxLen ∧ (l.length + [(s_5.getD i.toNat (0, []))].length) * 32 ≤ 140737488355328 then
          f13_broughamlaw10_MacBack_L5 n (l ++ [(s_5.getD i.toNat (0, []))]) (IntKind.wrap .i64 (i + 1)) k_0 k_1 s_0 s_1 s_2 s_3 s_4 s_5 s_6 x_0 x_1 x_2 x_3 x_4 x_5 x_6 x_7 x_8 x_9 x_10 x_11 x_12 x_13 x_14 x_15 x_16 x_17 x_18 x_19 x_20
          else none
          else none
        else
          if (0 : Int) ≤ i ∧ i < (((s_5).length : Nat) : Int) then
          if (decide ((((s_5.getD i.toNat (0, [])).1) : Int) > 7)) = true then
            if (0 : Int) ≤ i ∧ i < (((s_5).length : Nat) : Int) then
            if l.length + [(s_5.getD i.toNat (0, []))].length ≤ maxLen ∧ (l.length + [(s_5.getD i.toNat (0, []))].length) * 32 ≤ 140737488355328 then
            f13_broughamlaw10_MacBack_L5 n (l ++ [(s_5.getD i.toNat (0, []))]) (IntKind.wrap .i64 (i + 1)) k_0 k_1 s_0 s_1 s_2 s_3 s_4 s_5 s_6 x_0 x_1 x_2 x_3 x_4 x_5 x_6 x_7 x_8 x_9 x_10 x_11 x_12 x_13 x_14 x_15 x_16 x_17 x_18 x_19 x_20
            else none
            else none
          else
            f13_broughamlaw10_MacBack_L5 n l (IntKind.wrap .i64 (i + 1)) k_0 k_1 s_0 s_1 s_2 s_3 s_4 s_5 s_6 x_0 x_1 x_2 x_3 x_4 x_5 x_6 x_7 x_8 x_9 x_10 x_11 x_12 x_13 x_14 x_15 x_16 x_17 x_18 x_19 x_20
          else none
        else none
      else none
    else
      some ((l, k_0, k_1, s_0, s_1, s_2, s_3, s_4, s_5, s_6, x_0, x_1, x_2, x_3, x_4, x_5, x_6, x_7, x_8, x_9, x_10, x_11, x_12, x_13, x_14, x_15, x_16, x_17, x_18, x_19, x_20))
def f13_broughamlaw10_MacBack_L5_k (e : (List (Int × List Int)) × Int × Int × Int × Int × Int × Int × Int × (List (Int × List Int)) × List Int × Int × Bool × Int × Int × Int × Int × Bool × Bool × Int × Bool × Bool × Int × Int × Int × Int × Int × Int × Int × Int × Bool × Int) (o : Out) : Prop := At Go.Proofs.Try.prog Go.Proofs.Try.f13 0 9 ⟨[(3, .one (.c (.ptr 0 0))), (4, .one (.c (.ptr 1 0))), (5, .one (.c (.ptr 2 0))), (7, .one (.c (.own 3 (.pair (.int .u8) (.slice (.int .u8))) e.1)))], [(3, some ⟨30, 0⟩)], [(0, [.d (.int .u64 e.2.1), .d (.int .u64 e.2.2.1)]), (1, [.d (.int .u16 e.2.2.2.1), .d (.int .u16 e.2.2.2.2.1), .d (.int .u32 e.2.2.2.2.2.1), .d (.int .u32 e.2.2.2.2.2.2.1), .d (.int .u8 e.2.2.2.2.2.2.2.1), .d (.sl (.pair (.int .u8) (.slice (.int .u8))) e.2.2.2.2.2.2.2.2.1), .d (.sl (.int .u8) e.2.2.2.2.2.2.2.2.2.1)]), (2, [.d (.int .u64 e.2.2.2.2.2.2.2.2.2.2.1), .d (.bool e.2.2.2.2.2.2.2.2.2.2.2.1), .d (.int .u64 e.2.2.2.2.2.2.2.2.2.2.2.2.1), .d (.int .u32 e.2.2.2.2.2.2.2.2.2.2.2.2.2.1), .d (.int .u32 e.2.2.2.2.2.2.2.2.2.2.2.2.2.2.1), .d (.int .u8 e.2.2.2.2.2.2.2.2.2.2.2.2.2.2.2.1), .d (.bool e.2.2.2.2.2.2.2.2.2.2.2.2.2.2.2.2.1), .d (.bool e.2.2.2.2.2.2.2.2.2.2.2.2.2.2.2.2.2.1), .d (.int .u64 e.2.2.2.2.2.2.2.2.2.2.2.2.2.2.2.2.2.2.1), .d (.bool e.2.2.2.2.2.2.2.2.2.2.2.2.2.2.2.2.2.2.2.1), .d (.bool e.2.2.2.2.2.2.2.2.2.2.2.2.2.2.2.2.2.2.2.2.1), .d (.int .u64 e.2.2.2.2.2.2.2.2.2.2.2.2.2.2.2.2.2.2.2.2.2.1), .d (.int .u64 e.2.2.2.2.2.2.2.2.2.2.2.2.2.2.2.2.2.2.2.2.2.2.1), .d (.int .u32 e.2.2.2.2.2.2.2.2.2.2.2.2.2.2.2.2.2.2.2.2.2.2.2.1), .d (.int .u64 e.2.2.2.2.2.2.2.2.2.2.2.2.2.2.2.2.2.2.2.2.2.2.2.2.1), .d (.int .u8 e.2.2.2.2.2.2.2.2.2.2.2.2.2.2.2.2.2.2.2.2.2.2.2.2.2.1), .d (.int .u32 e.2.2.2.2.2.2.2.2.2.2.2.2.2.2.2.2.2.2.2.2.2.2.2.2.2.2.1), .d (.int .u8 e.2.2.2.2.2.2.2.2.2.2.2.2.2.2.2.2.2.2.2.2.2.2.2.2.2.2.2.1), .d (.int .u8 e.2.2.2.2.2.2.2.2.2.2.2.2.2.2.2.2.2.2.2.2.2.2.2.2.2.2.2.2.1), .d (.bool e.2.2.2.2.2.2.2.2.2.2.2.2.2.2.2.2.2.2.2.2.2.2.2.2.2.2.2.2.2.1), .d (.int .u64 e.2.2.2.2.2.2.2.2.2.2.2.2.2.2.2.2.2.2.2.2.2.2.2.2.2.2.2.2.2.2)])], 4⟩ o
theorem f13_broughamlaw10_MacBack_L5_ok (n : Nat) : ∀ (l : List (Int × List Int)) (i : Int) (k_0 : Int) (k_1 : Int) (s_0 : Int) (s_1 : Int) (s_2 : Int) (s_3 : Int) (s_4 : Int) (s_5 : List (Int × List Int)) (s_6 : List Int) (x_0 : Int) (x_1 : Bool) (x_2 : Int) (x_3 : Int) (x_4 : Int) (x_5 : Int) (x_6 : Bool) (x_7 : Bool) (x_8 : Int) (x_9 : Bool) (x_10 : Bool) (x_11 : Int) (x_12 : Int) (x_13 : Int) (x_14 : Int) (x_15 : Int) (x_16 : Int) (x_17 : Int) (x_18 : Int) (x_19 : Bool) (x_20 : Int) (w : (List (Int × List Int)) × Int × Int × Int × Int × Int × Int × Int × (List (Int × List Int)) × List Int × Int × Bool × Int × Int × Int × Int × Bool × Bool × Int × Bool × Bool × Int × Int × Int × Int × Int × Int × Int × Int × Bool × Int) (h : f13_broughamlaw10_MacBack_L5 n l i k_0 k_1 s_0 s_1 s_2 s_3 s_4 s_5 s_6 x_0 x_1 x_2 x_3 x_4 x_5 x_6 x_7 x_8 x_9 x_10 x_11 x_12 x_13 x_14 x_15 x_16 x_17 x_18 x_19 x_20 = some w) (o : Out) (hk : f13_broughamlaw10_MacBack_L5_k w o), At Go.Proofs.Try.prog Go.Proofs.Try.f13 0 5 ⟨[(3, .one (.c (.ptr 0 0))), (4, .one (.c (.ptr 1 0))), (5, .one (.c (.ptr 2 0))), (7, .one (.c (.own 3 (.pair (.int .u8) (.slice (.int .u8))) l))), (8, .one (.c (.d (.int .i64 i))))], [(3, some ⟨30, 0⟩)], [(0, [.d (.int .u64 k_0), .d (.int .u64 k_1)]), (1, [.d (.int .u16 s_0), .d (.int .u16 s_1), .d (.int .u32 s_2), .d (.int .u32 s_3), .d (.int .u8 s_4), .d (.sl (.pair (.int .u8) (.slice (.int .u8))) s_5), .d (.sl (.int .u8) s_6)]), (2, [.d (.int .u64 x_0), .d (.bool x_1), .d (.int .u64 x_2), .d (.int .u32 x_3), .d (.int .u32 x_4), .d (.int .u8 x_5), .d (.bool x_6), .d (.bool x_7), .d (.int .u64 x_8), .d (.bool x_9), .d (.bool x_10), .d (.int .u64 x_11), .d (.int .u64 x_12), .d (.int .u32 x_13), .d (.int .u64 x_14), .d (.int .u8 x_15), .d (.int .u32 x_16), .d (.int .u8 x_17), .d (.int .u8 x_18), .d (.bool x_19), .d (.int .u64 x_20)])], 4⟩ o := by
  induction n with
  | zero => intro l i k_0 k_1 s_0 s_1 s_2 s_3 s_4 s_5 s_6 x_0 x_1 x_2 x_3 x_4 x_5 x_6 x_7 x_8 x_9 x_10 x_11 x_12 x_13 x_14 x_15 x_16 x_17 x_18 x_19 x_20 w h; rw [f13_broughamlaw10_MacBack_L5] at h; cases h
  | succ n ih =>
    intro l i k_0 k_1 s_0 s_1 s_2 s_3 s_4 s_5 s_6 x_0 x_1 x_2 x_3 x_4 x_5 x_6 x_7 x_8 x_9 x_10 x_11 x_12 x_13 x_14 x_15 x_16 x_17 x_18 x_19 x_20 w h o hk
    rw [f13_broughamlaw10_MacBack_L5] at h
    rcases iteS h with ⟨b636_e0, h⟩ | ⟨b636_e0, h⟩
    · refine At.step hm ht ⟨[], [true], [], [3, 4, 5, 7, 8], [0, 1, 2, 3]⟩ 7 ⟨[(3, .one (.c (.ptr 0 0))), (4, .one (.c (.ptr 1 0))), (5, .one (.c (.ptr 2 0))), (7, .one (.c (.own 3 (.pair (.int .u8) (.slice (.int .u8))) l))), (8, .one (.c (.d (.int .i64 i))))], [(3, some ⟨30, 0⟩)], [(0, [.d (.int .u64 k_0), .d (.int .u64 k_1)]), (1, [.d (.int .u16 s_0), .d (.int .u16 s_1), .d (.int .u32 s_2), .d (.int .u32 s_3), .d (.int .u8 s_4), .d (.sl (.pair (.int .u8) (.slice (.int .u8))) s_5), .d (.sl (.int .u8) s_6)]), (2, [.d (.int .u64 x_0), .d (.bool x_1), .d (.int .u64 x_2), .d (.int .u32 x_3), .d (.int .u32 x_4), .d (.int .u8 x_5), .d (.bool x_6), .d (.bool x_7), .d (.int .u64 x_8), .d (.bool x_9), .d (.bool x_10), .d (.int .u64 x_11), .d (.int .u64 x_12), .d (.int .u32 x_13), .d (.int .u64 x_14), .d (.int .u8 x_15), .d (.int .u32 x_16), .d (.int .u8 x_17), .d (.int .u8 x_18), .d (.bool x_19), .d (.int .u64 x_20)])], 4⟩ [(decide ((i : Int) < ((s_5.length : Nat) : Int))) = true] (by kernel_rfl) ⟨b636_e0, trivial⟩ ?_
      obtain ⟨g637_0, h⟩ := ifS h
      rcases iteS h with ⟨b637_7, h⟩ | ⟨b637_7, h⟩
      · refine At.step hm ht ⟨[(7, .b true)], [true], [], [3, 4, 5, 7, 8], [0, 1, 2, 3]⟩ 8 ⟨[(3, .one (.c (.ptr 0 0))), (4, .one (.c (.ptr 1 0))), (5, .one (.c (.ptr 2 0))), (7, .one (.c (.own 3 (.pair (.int .u8) (.slice (.int .u8))) l))), (8, .one (.c (.d (.int .i64 i))))], [(3, some ⟨30, 0⟩)], [(0, [.d (.int .u64 k_0), .d (.int .u64 k_1)]), (1, [.d (.int .u16 s_0), .d (.int .u16 s_1), .d (.int .u32 s_2), .d (.int .u32 s_3), .d (.int .u8 s_4), .d (.sl (.pair (.int .u8) (.slice (.int .u8))) s_5), .d (.sl (.int .u8) s_6)]), (2, [.d (.int .u64 x_0), .d (.bool x_1), .d (.int .u64 x_2), .d (.int .u32 x_3), .d (.int .u32 x_4), .d (.int .u8 x_5), .d (.bool x_6), .d (.bool x_7), .d (.int .u64 x_8), .d (.bool x_9), .d (.bool x_10), .d (.int .u64 x_11), .d (.int .u64 x_12), .d (.int .u32 x_13), .d (.int .u64 x_14), .d (.int .u8 x_15), .d (.int .u32 x_16), .d (.int .u8 x_17), .d (.int .u8 x_18), .d (.bool x_19), .d (.int .u64 x_20)])], 4⟩ [(0 : Int) ≤ i ∧ i < (((s_5).length : Nat) : Int), ((((s_5.getD i.toNat (0, [])).1) : Int) == 1) = true, true = true] (by kernel_rfl) ⟨g637_0, b637_7, rfl, trivial⟩ ?_
        obtain ⟨g638_0, h⟩ := ifS h
        obtain ⟨g638_1, h⟩ := ifS h
        refine At.step hm ht ⟨[], [], [], [3, 4, 5, 7, 8], [0, 1, 2, 11]⟩ 6 ⟨[(3, .one (.c (.ptr 0 0))), (4, .one (.c (.ptr 1 0))), (5, .one (.c (.ptr 2 0))), (7, .one (.c (.own 3 (.pair (.int .u8) (.slice (.int .u8))) (l ++ [(s_5.getD i.toNat (0, []))])))), (8, .one (.c (.d (.int .i64 i))))], [(3, some ⟨30, 0⟩)], [(0, [.d (.int .u64 k_0), .d (.int .u64 k_1)]), (1, [.d (.int .u16 s_0), .d (.int .u16 s_1), .d (.int .u32 s_2), .d (.int .u32 s_3), .d (.int .u8 s_4), .d (.sl (.pair (.int .u8) (.slice (.int .u8))) s_5), .d (.sl (.int .u8) s_6)]), (2, [.d (.int .u64 x_0), .d (.bool x_1), .d (.int .u64 x_2), .d (.int .u32 x_3), .d (.int .u32 x_4), .d (.int .u8 x_5), .d (.bool x_6), .d (.bool x_7), .d (.int .u64 x_8), .d (.bool x_9), .d (.bool x_10), .d (.int .u64 x_11), .d (.int .u64 x_12), .d (.int .u32 x_13), .d (.int .u64 x_14), .d (.int .u8 x_15), .d (.int .u32 x_16), .d (.int .u8 x_17), .d (.int .u8 x_18), .d (.bool x_19), .d (.int .u64 x_20)])], 4⟩ [(0 : Int) ≤ i ∧ i < (((s_5).length : Nat) : Int), l.length + [(s_5.getD i.toNat (0, []))].length ≤ maxLen ∧ (l.length + [(s_5.getD i.toNat (0, []))].length) * 32 ≤ 140737488355328] (by kernel_rfl) ⟨g638_0, g638_1, trivial⟩ ?_
        refine At.step hm ht ⟨[], [], [], [3, 4, 5, 7, 8], [0, 1, 2, 3]⟩ 5 ⟨[(3, .one (.c (.ptr 0 0))), (4, .one (.c (.ptr 1 0))), (5, .one (.c (.ptr 2 0))), (7, .one (.c (.own 3 (.pair (.int .u8) (.slice (.int .u8))) (l ++ [(s_5.getD i.toNat (0, []))])))), (8, .one (.c (.d (.int .i64 (IntKind.wrap .i64 (i + 1))))))], [(3, some ⟨30, 0⟩)], [(0, [.d (.int .u64 k_0), .d (.int .u64 k_1)]), (1, [.d (.int .u16 s_0), .d (.int .u16 s_1), .d (.int .u32 s_2), .d (.int .u32 s_3), .d (.int .u8 s_4), .d (.sl (.pair (.int .u8) (.slice (.int .u8))) s_5), .d (.sl (.int .u8) s_6)]), (2, [.d (.int .u64 x_0), .d (.bool x_1), .d (.int .u64 x_2), .d (.int .u32 x_3), .d (.int .u32 x_4), .d (.int .u8 x_5), .d (.bool x_6), .d (.bool x_7), .d (.int .u64 x_8), .d (.bool x_9), .d (.bool x_10), .d (.int .u64 x_11), .d (.int .u64 x_12), .d (.int .u32 x_13), .d (.int .u64 x_14), .d (.int .u8 x_15), .d (.int .u32 x_16), .d (.int .u8 x_17), .d (.int .u8 x_18), .d (.bool x_19), .d (.int .u64 x_20)])], 4⟩ [] (by kernel_rfl) trivial ?_
        exact ih (l ++ [(s_5.getD i.toNat (0, []))]) (IntKind.wrap .i64 (i + 1)) k_0 k_1 s_0 s_1 s_2 s_3 s_4 s_5 s_6 x_0 x_1 x_2 x_3 x_4 x_5 x_6 x_7 x_8 x_9 x_10 x_11 x_12 x_13 x_14 x_15 x_16 x_17 x_18 x_19 x_20 w h o hk
      · obtain ⟨g637_1, h⟩ := ifS h
        rcases iteS h with ⟨b637_16, h⟩ | ⟨b637_16, h⟩
        · refine At.step hm ht ⟨[(7, .b false), (16, .b true)], [true], [], [3, 4, 5, 7, 8], [0, 1, 2, 3]⟩ 8 ⟨[(3, .one (.c (.ptr 0 0))), (4, .one (.c (.ptr 1 0))), (5, .one (.c (.ptr 2 0))), (7, .one (.c (.own 3 (.pair (.int .u8) (.slice (.int .u8))) l))), (8, .one (.c (.d (.int .i64 i))))], [(3, some ⟨30, 0⟩)], [(0, [.d (.int .u64 k_0), .d (.int .u64 k_1)]), (1, [.d (.int .u16 s_0), .d (.int .u16 s_1), .d (.int .u32 s_2), .d (.int .u32 s_3), .d (.int .u8 s_4), .d (.sl (.pair (.int .u8) (.slice (.int .u8))) s_5), .d (.sl (.int .u8) s_6)]), (2, [.d (.int .u64 x_0), .d (.bool x_1), .d (.int .u64 x_2), .d (.int .u32 x_3), .d (.int .u32 x_4), .d (.int .u8 x_5), .d (.bool x_6), .d (.bool x_7), .d (.int .u64 x_8), .d (.bool x_9), .d (.bool x_10), .d (.int .u64 x_11), .d (.int .u64 x_12), .d (.int .u32 x_13), .d (.int .u64 x_14), .d (.int .u8 x_15), .d (.int .u32 x_16), .d (.int .u8 x_17), .d (.int .u8 x_18), .d (.bool x_19), .d (.int .u64 x_20)])], 4⟩ [(0 : Int) ≤ i ∧ i < (((s_5).length : Nat) : Int), ((((s_5.getD i.toNat (0, [])).1) : Int) == 1) = false, (0 : Int) ≤ i ∧ i < (((s_5).length : Nat) : Int), ((((s_5.getD i.toNat (0, [])).1) : Int) == 2) = true, true = true] (by kernel_rfl) ⟨g637_0, b637_7, g637_1, b637_16, rfl, trivial⟩ ?_
          obtain ⟨g640_0, h⟩ := ifS h
          obtain ⟨g640_1, h⟩ := ifS h
          refine At.step hm ht ⟨[], [], [], [3, 4, 5, 7, 8], [0, 1, 2, 11]⟩ 6 ⟨[(3, .one (.c (.ptr 0 0))), (4, .one (.c (.ptr 1 0))), (5, .one (.c (.ptr 2 0))), (7, .one (.c (.own 3 (.pair (.int .u8) (.slice (.int .u8))) (l ++ [(s_5.getD i.toNat (0, []))])))), (8, .one (.c (.d (.int .i64 i))))], [(3, some ⟨30, 0⟩)], [(0, [.d (.int .u64 k_0), .d (.int .u64 k_1)]), (1, [.d (.int .u16 s_0), .d (.int .u16 s_1), .d (.int .u32 s_2), .d (.int .u32 s_3), .d (.int .u8 s_4), .d (.sl (.pair (.int .u8) (.slice (.int .u8))) s_5), .d (.sl (.int .u8) s_6)]), (2, [.d (.int .u64 x_0), .d (.bool x_1), .d (.int .u64 x_2), .d (.int .u32 x_3), .d (.int .u32 x_4), .d (.int .u8 x_5), .d (.bool x_6), .d (.bool x_7), .d (.int .u64 x_8), .d (.bool x_9), .d (.bool x_10), .d (.int .u64 x_11), .d (.int .u64 x_12), .d (.int .u32 x_13), .d (.int .u64 x_14), .d (.int .u8 x_15), .d (.int .u32 x_16), .d (.int .u8 x_17), .d (.int .u8 x_18), .d (.bool x_19), .d (.int .u64 x_20)])], 4⟩ [(0 : Int) ≤ i ∧ i < (((s_5).length : Nat) : Int), l.length + [(s_5.getD i.toNat (0, []))].length ≤ maxLen ∧ (l.length + [(s_5.getD i.toNat (0, []))].length) * 32 ≤ 140737488355328] (by kernel_rfl) ⟨g640_0, g640_1, trivial⟩ ?_
          refine At.step hm ht ⟨[], [], [], [3, 4, 5, 7, 8], [0, 1, 2, 3]⟩ 5 ⟨[(3, .one (.c (.ptr 0 0))), (4, .one (.c (.ptr 1 0))), (5, .one (.c (.ptr 2 0))), (7, .one (.c (.own 3 (.pair (.int .u8) (.slice (.int .u8))) (l ++ [(s_5.getD i.toNat (0, []))])))), (8, .one (.c (.d (.int .i64 (IntKind.wrap .i64 (i + 1))))))], [(3, some ⟨30, 0⟩)], [(0, [.d (.int .u64 k_0), .d (.int .u64 k_1)]), (1, [.d (.int .u16 s_0), .d (.int .u16 s_1), .d (.int .u32 s_2), .d (.int .u32 s_3), .d (.int .u8 s_4), .d (.sl (.pair (.int .u8) (.slice (.int .u8))) s_5), .d (.sl (.int .u8) s_6)]), (2, [.d (.int .u64 x_0), .d (.bool x_1), .d (.int .u64 x_2), .d (.int .u32 x_3), .d (.int .u32 x_4), .d (.int .u8 x_5), .d (.bool x_6), .d (.bool x_7), .d (.int .u64 x_8), .d (.bool x_9), .d (.bool x_10), .d (.int .u64 x_11), .d (.int .u64 x_12), .d (.int .u32 x_13), .d (.int .u64 x_14), .d (.int .u8 x_15), .d (.int .u32 x_16), .d (.int .u8 x_17), .d (.int .u8 x_18), .d (.bool x_19), .d (.int .u64 x_20)])], 4⟩ [] (by kernel_rfl) trivial ?_
          exact ih (l ++ [(s_5.getD i.toNat (0, []))]) (IntKind.wrap .i64 (i + 1)) k_0 k_1 s_0 s_1 s_2 s_3 s_4 s_5 s_6 x_0 x_1 x_2 x_3 x_4 x_5 x_6 x_7 x_8 x_9 x_10 x_11 x_12 x_13 x_14 x_15 x_16 x_17 x_18 x_19 x_20 w h o hk
        · obtain ⟨g637_2, h⟩ := ifS h
          rcases iteS h with ⟨b637_e0, h⟩ | ⟨b637_e0, h⟩
          · refine At.step hm ht ⟨[(7, .b false), (16, .b false)], [true], [], [3, 4, 5, 7, 8], [0, 1, 2, 3]⟩ 8 ⟨[(3, .one (.c (.ptr 0 0))), (4, .one (.c (.ptr 1 0))), (5, .one (.c (.ptr 2 0))), (7, .one (.c (.own 3 (.pair (.int .u8) (.slice (.int .u8))) l))), (8, .one (.c (.d (.int .i64 i))))], [(3, some ⟨30, 0⟩)], [(0, [.d (.int .u64 k_0), .d (.int .u64 k_1)]), (1, [.d (.int .u16 s_0), .d (.int .u16 s_1), .d (.int .u32 s_2), .d (.int .u32 s_3), .d (.int .u8 s_4), .d (.sl (.pair (.int .u8) (.slice (.int .u8))) s_5), .d (.sl (.int .u8) s_6)]), (2, [.d (.int .u64 x_0), .d (.bool x_1), .d (.int .u64 x_2), .d (.int .u32 x_3), .d (.int .u32 x_4), .d (.int .u8 x_5), .d (.bool x_6), .d (.bool x_7), .d (.int .u64 x_8), .d (.bool x_9), .d (.bool x_10), .d (.int .u64 x_11), .d (.int .u64 x_12), .d (.int .u32 x_13), .d (.int .u64 x_14), .d (.int .u8 x_15), .d (.int .u32 x_16), .d (.int .u8 x_17), .d (.int .u8 x_18), .d (.bool x_19), .d (.int .u64 x_20)])], 4⟩ [(0 : Int) ≤ i ∧ i < (((s_5).length : Nat) : Int), ((((s_5.getD i.toNat (0, [])).1) : Int) == 1) = false, (0 : Int) ≤ i ∧ i < (((s_5).length : Nat) : Int), ((((s_5.getD i.toNat (0, [])).1) : Int) == 2) = false, (0 : Int) ≤ i ∧ i < (((s_5).length : Nat) : Int), (decide ((((s_5.getD i.toNat (0, [])).1) : Int) > 7)) = true] (by kernel_rfl) ⟨g637_0, b637_7, g637_1, b637_16, g637_2, b637_e0, trivial⟩ ?_
            obtain ⟨g642_0, h⟩ := ifS h
            obtain ⟨g642_1, h⟩ := ifS h
            refine At.step hm ht ⟨[], [], [], [3, 4, 5, 7, 8], [0, 1, 2, 11]⟩ 6 ⟨[(3, .one (.c (.ptr 0 0))), (4, .one (.c (.ptr 1 0))), (5, .one (.c (.ptr 2 0))), (7, .one (.c (.own 3 (.pair (.int .u8) (.slice (.int .u8))) (l ++ [(s_5.getD i.toNat (0, []))])))), (8, .one (.c (.d (.int .i64 i))))], [(3, some ⟨30, 0⟩)], [(0, [.d (.int .u64 k_0), .d (.int .u64 k_1)]), (1, [.d (.int .u16 s_0), .d (.int .u16 s_1), .d (.int .u32 s_2), .d (.int .u32 s_3), .d (.int .u8 s_4), .d (.sl (.pair (.int .u8) (.slice (.int .u8))) s_5), .d (.sl (.int .u8) s_6)]), (2, [.d (.int .u64 x_0), .d (.bool x_1), .d (.int .u64 x_2), .d (.int .u32 x_3), .d (.int .u32 x_4), .d (.int .u8 x_5), .d (.bool x_6), .d (.bool x_7), .d (.int .u64 x_8), .d (.bool x_9), .d (.bool x_10), .d (.int .u64 x_11), .d (.int .u64 x_12), .d (.int .u32 x_13), .d (.int .u64 x_14), .d (.int .u8 x_15), .d (.int .u32 x_16), .d (.int .u8 x_17), .d (.int .u8 x_18), .d (.bool x_19), .d (.int .u64 x_20)])], 4⟩ [(0 : Int) ≤ i ∧ i < (((s_5).length : Nat) : Int), l.length + [(s_5.getD i.toNat (0, []))].length ≤ maxLen ∧ (l.length + [(s_5.getD i.toNat (0, []))].length) * 32 ≤ 140737488355328] (by kernel_rfl) ⟨g642_0, g642_1, trivial⟩ ?_
            refine At.step hm ht ⟨[], [], [], [3, 4, 5, 7, 8], [0, 1, 2, 3]⟩ 5 ⟨[(3, .one (.c (.ptr 0 0))), (4, .one (.c (.ptr 1 0))), (5, .one (.c (.ptr 2 0))), (7, .one (.c (.own 3 (.pair (.int .u8) (.slice (.int .u8))) (l ++ [(s_5.getD i.toNat (0, []))])))), (8, .one (.c (.d (.int .i64 (IntKind.wrap .i64 (i + 1))))))], [(3, some ⟨30, 0⟩)], [(0, [.d (.int .u64 k_0), .d (.int .u64 k_1)]), (1, [.d (.int .u16 s_0), .d (.int .u16 s_1), .d (.int .u32 s_2), .d (.int .u32 s_3), .d (.int .u8 s_4), .d (.sl (.pair (.int .u8) (.slice (.int .u8))) s_5), .d (.sl (.int .u8) s_6)]), (2, [.d (.int .u64 x_0), .d (.bool x_1), .d (.int .u64 x_2), .d (.int .u32 x_3), .d (.int .u32 x_4), .d (.int .u8 x_5), .d (.bool x_6), .d (.bool x_7), .d (.int .u64 x_8), .d (.bool x_9), .d (.bool x_10), .d (.int .u64 x_11), .d (.int .u64 x_12), .d (.int .u32 x_13), .d (.int .u64 x_14), .d (.int .u8 x_15), .d (.int .u32 x_16), .d (.int .u8 x_17), .d (.int .u8 x_18), .d (.bool x_19), .d (.int .u64 x_20)])], 4⟩ [] (by kernel_rfl) trivial ?_
            exact ih (l ++ [(s_5.getD i.toNat (0, []))]) (IntKind.wrap .i64 (i + 1)) k_0 k_1 s_0 s_1 s_2 s_3 s_4 s_5 s_6 x_0 x_1 x_2 x_3 x_4 x_5 x_6 x_7 x_8 x_9 x_10 x_11 x_12 x_13 x_14 x_15 x_16 x_17 x_18 x_19 x_20 w h o hk
          · refine At.step hm ht ⟨[(7, .b false), (16, .b false)], [false], [], [3, 4, 5, 7, 8], [0, 1, 2, 3]⟩ 6 ⟨[(3, .one (.c (.ptr 0 0))), (4, .one (.c (.ptr 1 0))), (5, .one (.c (.ptr 2 0))), (7, .one (.c (.own 3 (.pair (.int .u8) (.slice (.int .u8))) l))), (8, .one (.c (.d (.int .i64 i))))], [(3, some ⟨30, 0⟩)], [(0, [.d (.int .u64 k_0), .d (.int .u64 k_1)]), (1, [.d (.int .u16 s_0), .d (.int .u16 s_1), .d (.int .u32 s_2), .d (.int .u32 s_3), .d (.int .u8 s_4), .d (.sl (.pair (.int .u8) (.slice (.int .u8))) s_5), .d (.sl (.int .u8) s_6)]), (2, [.d (.int .u64 x_0), .d (.bool x_1), .d (.int .u64 x_2), .d (.int .u32 x_3), .d (.int .u32 x_4), .d (.int .u8 x_5), .d (.bool x_6), .d (.bool x_7), .d (.int .u64 x_8), .d (.bool x_9), .d (.bool x_10), .d (.int .u64 x_11), .d (.int .u64 x_12), .d (.int .u32 x_13), .d (.int .u64 x_14), .d (.int .u8 x_15), .d (.int .u32 x_16), .d (.int .u8 x_17), .d (.int .u8 x_18), .d (.bool x_19), .d (.int .u64 x_20)])], 4⟩ [(0 : Int) ≤ i ∧ i < (((s_5).length : Nat) : Int), ((((s_5.getD i.toNat (0, [])).1) : Int) == 1) = false, (0 : Int) ≤ i ∧ i < (((s_5).length : Nat) : Int), ((((s_5.getD i.toNat (0, [])).1) : Int) == 2) = false, (0 : Int) ≤ i ∧ i < (((s_5).length : Nat) : Int), (decide ((((s_5.getD i.toNat (0, [])).1) : Int) > 7)) = false] (by kernel_rfl) ⟨g637_0, b637_7, g637_1, b637_16, g637_2, b637_e0, trivial⟩ ?_
            refine At.step hm ht ⟨[], [], [], [3, 4, 5, 7, 8], [0, 1, 2, 3]⟩ 5 ⟨[(3, .one (.c (.ptr 0 0))), (4, .one (.c (.ptr 1 0))), (5, .one (.c (.ptr 2 0))), (7, .one (.c (.own 3 (.pair (.int .u8) (.slice (.int .u8))) l))), (8, .one (.c (.d (.int .i64 (IntKind.wrap .i64 (i + 1))))))], [(3, some ⟨30, 0⟩)], [(0, [.d (.int .u64 k_0), .d (.int .u64 k_1)]), (1, [.d (.int .u16 s_0), .d (.int .u16 s_1), .d (.int .u32 s_2), .d (.int .u32 s_3), .d (.int .u8 s_4), .d (.sl (.pair (.int .u8) (.slice (.int .u8))) s_5), .d (.sl (.int .u8) s_6)]), (2, [.d (.int .u64 x_0), .d (.bool x_1), .d (.int .u64 x_2), .d (.int .u32 x_3), .d (.int .u32 x_4), .d (.int .u8 x_5), .d (.bool x_6), .d (.bool x_7), .d (.int .u64 x_8), .d (.bool x_9), .d (.bool x_10), .d (.int .u64 x_11), .d (.int .u64 x_12), .d (.int .u32 x_13), .d (.int .u64 x_14), .d (.int .u8 x_15), .d (.int .u32 x_16), .d (.int .u8 x_17), .d (.int .u8 x_18), .d (.bool x_19), .d (.int .u64 x_20)])], 4⟩ [] (by kernel_rfl) trivial ?_
            exact ih l (IntKind.wrap .i64 (i + 1)) k_0 k_1 s_0 s_1 s_2 s_3 s_4 s_5 s_6 x_0 x_1 x_2 x_3 x_4 x_5 x_6 x_7 x_8 x_9 x_10 x_11 x_12 x_13 x_14 x_15 x_16 x_17 x_18 x_19 x_20 w h o hk
    · refine At.step hm ht ⟨[], [false], [], [3, 4, 5, 7], [0, 1, 2, 3]⟩ 9 ⟨[(3, .one (.c (.ptr 0 0))), (4, .one (.c (.ptr 1 0))), (5, .one (.c (.ptr 2 0))), (7, .one (.c (.own 3 (.pair (.int .u8) (.slice (.int .u8))) l)))], [(3, some ⟨30, 0⟩)], [(0, [.d (.int .u64 k_0), .d (.int .u64 k_1)]), (1, [.d (.int .u16 s_0), .d (.int .u16 s_1), .d (.int .u32 s_2), .d (.int .u32 s_3), .d (.int .u8 s_4), .d (.sl (.pair (.int .u8) (.slice (.int .u8))) s_5), .d (.sl (.int .u8) s_6)]), (2, [.d (.int .u64 x_0), .d (.bool x_1), .d (.int .u64 x_2), .d (.int .u32 x_3), .d (.int .u32 x_4), .d (.int .u8 x_5), .d (.bool x_6), .d (.bool x_7), .d (.int .u64 x_8), .d (.bool x_9), .d (.bool x_10), .d (.int .u64 x_11), .d (.int .u64 x_12), .d (.int .u32 x_13), .d (.int .u64 x_14), .d (.int .u8 x_15), .d (.int .u32 x_16), .d (.int .u8 x_17), .d (.int .u8 x_18), .d (.bool x_19), .d (.int .u64 x_20)])], 4⟩ [(decide ((i : Int) < ((s_5.length : Nat) : Int))) = false] (by kernel_rfl) ⟨b636_e0, trivial⟩ ?_
      have h := Option.some.inj h
      subst h
      exact hk
def f13_broughamlaw10_MacBack (n : Nat) (k_0 : Int) (k_1 : Int) (s_0 : Int) (s_1 : Int) (s_2 : Int) (s_3 : Int) (s_4 : Int) (s_5 : List (Int × List Int)) (s_6 : List Int) (x_0 : Int) (x_1 : Bool) (x_2 : Int) (x_3 : Int) (x_4 : Int) (x_5 : Int) (x_6 : Bool) (x_7 : Bool) (x_8 : Int) (x_9 : Bool) (x_10 : Bool) (x_11 : Int) (x_12 : Int) (x_13 : Int) (x_14 : Int) (x_15 : Int) (x_16 : Int) (x_17 : Int) (x_18 : Int) (x_19 : Bool) (x_20 : Int) : Option (Bool) :=
  (f15_broughamlaw07_Great n s_0 s_1 s_2 s_3 s_4 s_5 s_6).bind fun r629_0 =>
  if r629_0 = true then
    some true
  else
    if (decide ((((s_5.length : Nat) : Int) : Int) > 60)) = true then
      some true
    else
      if (decide ((x_15 : Int) < 4)) = true then
        some true
      else
        if (decide ((x_15 : Int) > 7)) = true then
          some true
        else
          (f13_broughamlaw10_MacBack_L5 n [] 0 k_0 k_1 s_0 s_1 s_2 s_3 s_4 s_5 s_6 x_0 x_1 x_2 x_3 x_4 x_5 x_6 x_7 x_8 x_9 x_10 x_11 x_12 x_13 x_14 x_15 x_16 x_17 x_18 x_19 x_20).bind fun w645 =>
          (f62_mac_Word n w645.2.1 w645.2.2.1 w645.2.2.2.1 w645.2.2.2.2.1 w645.2.2.2.2.2.1 w645.2.2.2.2.2.2.1 w645.2.2.2.2.2.2.2.1 w645.2.2.2.2.2.2.2.2.1 w645.2.2.2.2.2.2.2.2.2.1 w645.2.2.2.2.2.2.2.2.2.2.2.2.2.2.2.2.2.2.2.2.2.2.2.2.2.1 w645.2.2.2.2.2.2.2.2.2.2.2.2.2.2.2.2.2.2.2.2.2.2.2.2.2.2.1 w645.2.2.2.2.2.2.2.2.2.2.2.2.2.2.2.2.2.2.2.2.2.2.2.2.2.2.2.1 w645.2.2.2.2.2.2.2.2.2.2.2.2.2.2.2.2.2.2.2.2.2.2.2.2.2.2.2.2.1 w645.2.2.2.2.2.2.2.2.2.2.2.2.2.2.2.2.2.2.2.2.2.2.2.2.2.2.2.2.2.1 w645.2.2.2.2.2.2.2.2.2.2.2.2.2.2.2.2.2.2.2.2.2.2.2.2.2.2.2.2.2.2).bind fun r647_0 =>
          (f63_mac_Data n w645.2.1 w645.2.2.1 w645.2.2.2.1 w645.2.2.2.2.1 w645.2.2.2.2.2.1 w645.2.2.2.2.2.2.1 w645.2.2.2.2.2.2.2.1 w645.2.2.2.2.2.2.2.2.1 w645.2.2.2.2.2.2.2.2.2.1 w645.2.2.2.2.2.2.2.2.2.2.2.2.2.2.2.2.2.2.2.1 w645.2.2.2.2.2.2.2.2.2.2.2.2.2.2.2.2.2.2.2.2.1 w645.2.2.2.2.2.2.2.2.2.2.2.2.2.2.2.2.2.2.2.2.2.1 w645.2.2.2.2.2.2.2.2.2.2.2.2.2.2.2.2.2.2.2.2.2.2.1 w645.2.2.2.2.2.2.2.2.2.2.2.2.2.2.2.2.2.2.2.2.2.2.2.1 w645.2.2.2.2.2.2.2.2.2.2.2.2.2.2.2.2.2.2.2.2.2.2.2.2.1).bind fun r647_1 =>
          (f62_mac_Word n w645.2.1 w645.2.2.1 w645.2.2.2.1 w645.2.2.2.2.1 w645.2.2.2.2.2.1 w645.2.2.2.2.2.2.1 w645.2.2.2.2.2.2.2.1 w645.2.2.2.2.2.2.2.2.1 w645.2.2.2.2.2.2.2.2.2.1 w645.2.2.2.2.2.2.2.2.2.2.2.2.2.2.2.2.2.2.2.2.2.2.2.2.2.1 w645.2.2.2.2.2.2.2.2.2.2.2.2.2.2.2.2.2.2.2.2.2.2.2.2.2.2.1 w645.2.2.2.2.2.2.2.2.2.2.2.2.2.2.2.2.2.2.2.2.2.2.2.2.2.2.2.1 w645.2.2.2.2.2.2.2.2.2.2.2.2.2.2.2.2.2.2.2.2.2.2.2.2.2.2.2.2.1 w645.2.2.2.2.2.2.2.2.2.2.2.2.2.2.2.2.2.2.2.2.2.2.2.2.2.2.2.2.2.1 w645.2.2.2.2.2.2.2.2.2.2.2.2.2.2.2.2.2.2.2.2.2.2.2.2.2.2.2.2.2.2).bind fun r647_2 =>
          if w645.1.length + [r647_0, r647_1, r647_2].length ≤ maxLen ∧ (w645.1.length + [r647_0, r647_1, r647_2].length) * 32 ≤ 140737488355328 then
          (f55_seg_Of w645.2.2.2.1 w645.2.2.2.2.1 w645.2.2.2.2.2.1 w645.2.2.2.2.2.2.1 w645.2.2.2.2.2.2.2.1 w645.2.2.2.2.2.2.2.2.1 w645.2.2.2.2.2.2.2.2.2.1 (w645.1 ++ [r647_0, r647_1, r647_2])).bind fun r652_0 =>
          (f58_mac_Open n w645.2.1 w645.2.2.1 r652_0.1 r652_0.2.1 r652_0.2.2.1 r652_0.2.2.2.1 r652_0.2.2.2.2.1 r652_0.2.2.2.2.2.1 r652_0.2.2.2.2.2.2).bind fun r653_0 =>
          (f60_mac_Words n w645.2.1 w645.2.2.1 r652_0.1 r652_0.2.1 r652_0.2.2.1 r652_0.2.2.2.1 r652_0.2.2.2.2.1 r652_0.2.2.2.2.2.1 r652_0.2.2.2.2.2.2).bind fun r654_0 =>
          if (!r653_0.1) = true then
            some false
          else
            if (!((r653_0.2.1 == w645.2.2.2.2.2.2.2.2.2.2.2.2.2.2.2.2.2.2.2.1) && ((r653_0.2.2.1 == w645.2.2.2.2.2.2.2.2.2.2.2.2.2.2.2.2.2.2.2.2.1) && (((r653_0.2.2.2.1 : Int) == w645.2.2.2.2.2.2.2.2.2.2.2.2.2.2.2.2.2.2.2.2.2.1) && (((r653_0.2.2.2.2.1 : Int) == w645.2.2.2.2.2.2.2.2.2.2.2.2.2.2.2.2.2.2.2.2.2.2.1) && (((r653_0.2.2.2.2.2.1 : Int) == w645.2.2.2.2.2.2.2.2.2.2.2.2.2.2.2.2.2.2.2.2.2.2.2.1) && ((r653_0.2.2.2.2.2.2 : Int) == r653_0.2.2.2.2.2.2))))))) = true then
              some false
            else
              if ((((r654_0.length : Nat) : Int) : Int) != 2) = true then
                some false
              else
                if (0 : Int) ≤ 0 ∧ 0 < (((r654_0).length : Nat) : Int) then
                if (0 : Int) ≤ 0 ∧ 0 < (((r654_0).length : Nat) : Int) then
                if (((((r654_0.getD 0 (0, (0, (0, (0, (false, 0)))))).1) : Int) == w645.2.2.2.2.2.2.2.2.2.2.2.2.2.2.2.2.2.2.2.2.2.2.2.2.2.1) && ((((((r654_0.getD 0 (0, (0, (0, (0, (false, 0)))))).2).1) : Int) == w645.2.2.2.2.2.2.2.2.2.2.2.2.2.2.2.2.2.2.2.2.2.2.2.2.2.2.1) && (((((((r654_0.getD 0 (0, (0, (0, (0, (false, 0)))))).2).2).1) : Int) == w645.2.2.2.2.2.2.2.2.2.2.2.2.2.2.2.2.2.2.2.2.2.2.2.2.2.2.2.1) && ((((((((r654_0.getD 0 (0, (0, (0, (0, (false, 0)))))).2).2).2).1) : Int) == w645.2.2.2.2.2.2.2.2.2.2.2.2.2.2.2.2.2.2.2.2.2.2.2.2.2.2.2.2.1) && ((((((((r654_0.getD 0 (0, (0, (0, (0, (false, 0)))))).2).2).2).2).1) == w645.2.2.2.2.2.2.2.2.2.2.2.2.2.2.2.2.2.2.2.2.2.2.2.2.2.2.2.2.2.1) && ((((((((r654_0.getD 0 (0, (0, (0, (0, (false, 0)))))).2).2).2).2).2) : Int) == ((((((r654_0.getD 0 (0, (0, (0, (0, (false, 0)))))).2).2).2).2).2))))))) = true then
                  if (0 : Int) ≤ 1 ∧ 1 < (((r654_0).length : Nat) : Int) then
                  if (((((r654_0.getD 1 (0, (0, (0, (0, (false, 0)))))).1) : Int) == w645.2.2.2.2.2.2.2.2.2.2.2.2.2.2.2.2.2.2.2.2.2.2.2.2.2.1) && ((((((r654_0.getD 1 (0, (0, (0, (0, (false, 0)))))).2).1) : Int) == w645.2.2.2.2.2.2.2.2.2.2.2.2.2.2.2.2.2.2.2.2.2.2.2.2.2.2.1) && (((((((r654_0.getD 1 (0, (0, (0, (0, (false, 0)))))).2).2).1) : Int) == w645.2.2.2.2.2.2.2.2.2.2.2.2.2.2.2.2.2.2.2.2.2.2.2.2.2.2.2.1) && ((((((((r654_0.getD 1 (0, (0, (0, (0, (false, 0)))))).2).2).2).1) : Int) == w645.2.2.2.2.2.2.2.2.2.2.2.2.2.2.2.2.2.2.2.2.2.2.2.2.2.2.2.2.1) && ((((((((r654_0.getD 1 (0, (0, (0, (0, (false, 0)))))).2).2).2).2).1) == w645.2.2.2.2.2.2.2.2.2.2.2.2.2.2.2.2.2.2.2.2.2.2.2.2.2.2.2.2.2.1) && ((((((((r654_0.getD 1 (0, (0, (0, (0, (false, 0)))))).2).2).2).2).2) : Int) == ((((((r654_0.getD 0 (0, (0, (0, (0, (false, 0)))))).2).2).2).2).2))))))) = true then
                    (f57_broughamlaw10_alive n).bind fun r663_2 =>
                    some r663_2
                  else
                    some false
                  else none
                else
                  some false
                else none
                else none
          else none
theorem f13_broughamlaw10_MacBack_ok (n : Nat) (k_0 : Int) (k_1 : Int) (s_0 : Int) (s_1 : Int) (s_2 : Int) (s_3 : Int) (s_4 : Int) (s_5 : List (Int × List Int)) (s_6 : List Int) (x_0 : Int) (x_1 : Bool) (x_2 : Int) (x_3 : Int) (x_4 : Int) (x_5 : Int) (x_6 : Bool) (x_7 : Bool) (x_8 : Int) (x_9 : Bool) (x_10 : Bool) (x_11 : Int) (x_12 : Int) (x_13 : Int) (x_14 : Int) (x_15 : Int) (x_16 : Int) (x_17 : Int) (x_18 : Int) (x_19 : Bool) (x_20 : Int) (r : Bool) (h : f13_broughamlaw10_MacBack n k_0 k_1 s_0 s_1 s_2 s_3 s_4 s_5 s_6 x_0 x_1 x_2 x_3 x_4 x_5 x_6 x_7 x_8 x_9 x_10 x_11 x_12 x_13 x_14 x_15 x_16 x_17 x_18 x_19 x_20 = some r) : FnOK Go.Proofs.Try.prog 13 (f13_broughamlaw10_MacBack_in k_0 k_1 s_0 s_1 s_2 s_3 s_4 s_5 s_6 x_0 x_1 x_2 x_3 x_4 x_5 x_6 x_7 x_8 x_9 x_10 x_11 x_12 x_13 x_14 x_15 x_16 x_17 x_18 x_19 x_20) (f13_broughamlaw10_MacBack_out r) := by
  unfold f13_broughamlaw10_MacBack at h
  refine At.fn (r := 0) Go.Proofs.Try.func13 rfl (by kernel_rfl) rfl rfl (by kernel_rfl) ?_
  show At Go.Proofs.Try.prog Go.Proofs.Try.f13 0 0 ⟨[(0, .one (.agg [.d (.int .u64 k_0), .d (.int .u64 k_1)])), (1, .one (.agg [.d (.int .u16 s_0), .d (.int .u16 s_1), .d (.int .u32 s_2), .d (.int .u32 s_3), .d (.int .u8 s_4), .d (.sl (.pair (.int .u8) (.slice (.int .u8))) s_5), .d (.sl (.int .u8) s_6)])), (2, .one (.agg [.d (.int .u64 x_0), .d (.bool x_1), .d (.int .u64 x_2), .d (.int .u32 x_3), .d (.int .u32 x_4), .d (.int .u8 x_5), .d (.bool x_6), .d (.bool x_7), .d (.int .u64 x_8), .d (.bool x_9), .d (.bool x_10), .d (.int .u64 x_11), .d (.int .u64 x_12), .d (.int .u32 x_13), .d (.int .u64 x_14), .d (.int .u8 x_15), .d (.int .u32 x_16), .d (.int .u8 x_17), .d (.int .u8 x_18), .d (.bool x_19), .d (.int .u64 x_20)]))], [], [], 0⟩ _
  refine At.step hm ht ⟨[], [], [], [3, 4, 5], [0, 1, 2]⟩ 1 ⟨[(3, .one (.c (.ptr 0 0))), (4, .one (.c (.ptr 1 0))), (5, .one (.c (.ptr 2 0)))], [], [(0, [.d (.int .u64 k_0), .d (.int .u64 k_1)]), (1, [.d (.int .u16 s_0), .d (.int .u16 s_1), .d (.int .u32 s_2), .d (.int .u32 s_3), .d (.int .u8 s_4), .d (.sl (.pair (.int .u8) (.slice (.int .u8))) s_5), .d (.sl (.int .u8) s_6)]), (2, [.d (.int .u64 x_0), .d (.bool x_1), .d (.int .u64 x_2), .d (.int .u32 x_3), .d (.int .u32 x_4), .d (.int .u8 x_5), .d (.bool x_6), .d (.bool x_7), .d (.int .u64 x_8), .d (.bool x_9), .d (.bool x_10), .d (.int .u64 x_11), .d (.int .u64 x_12), .d (.int .u32 x_13), .d (.int .u64 x_14), .d (.int .u8 x_15), .d (.int .u32 x_16), .d (.int .u8 x_17), .d (.int .u8 x_18), .d (.bool x_19), .d (.int .u64 x_20)])], 3⟩ [] (by kernel_rfl) trivial ?_
  obtain ⟨r629_0, cr629_0, h⟩ := bindS h
  rcases iteS h with ⟨b629_2, h⟩ | ⟨b629_2, h⟩
  · refine At.step hm ht ⟨[(1, .call [] [] (f15_broughamlaw07_Great_out r629_0)), (2, .b true)], [true], [], [], []⟩ 2 ⟨[], [], [], 0⟩ [FnOK Go.Proofs.Try.prog 15 (f15_broughamlaw07_Great_in s_0 s_1 s_2 s_3 s_4 s_5 s_6) (f15_broughamlaw07_Great_out r629_0), r629_0 = true, true = true] (by kernel_rfl) ⟨(f15_broughamlaw07_Great_ok n s_0 s_1 s_2 s_3 s_4 s_5 s_6 r629_0 cr629_0), b629_2, rfl, trivial⟩ ?_
    have h := Option.some.inj h
    subst h
    exact At.fin hm ht ⟨[], [], [], [6], []⟩ [] (by kernel_rfl) trivial
  · rcases iteS h with ⟨b629_8, h⟩ | ⟨b629_8, h⟩
    · refine At.step hm ht ⟨[(1, .call [] [] (f15_broughamlaw07_Great_out r629_0)), (2, .b false), (8, .b true)], [true], [], [], []⟩ 2 ⟨[], [], [], 0⟩ [FnOK Go.Proofs.Try.prog 15 (f15_broughamlaw07_Great_in s_0 s_1 s_2 s_3 s_4 s_5 s_6) (f15_broughamlaw07_Great_out r629_0), r629_0 = false, (decide ((((s_5.length : Nat) : Int) : Int) > 60)) = true, true = true] (by kernel_rfl) ⟨(f15_broughamlaw07_Great_ok n s_0 s_1 s_2 s_3 s_4 s_5 s_6 r629_0 cr629_0), b629_2, b629_8, rfl, trivial⟩ ?_
      have h := Option.some.inj h
      subst h
      exact At.fin hm ht ⟨[], [], [], [6], []⟩ [] (by kernel_rfl) trivial
    · rcases iteS h with ⟨b629_14, h⟩ | ⟨b629_14, h⟩
      · refine At.step hm ht ⟨[(1, .call [] [] (f15_broughamlaw07_Great_out r629_0)), (2, .b false), (8, .b false), (14, .b true)], [true], [], [], []⟩ 2 ⟨[], [], [], 0⟩ [FnOK Go.Proofs.Try.prog 15 (f15_broughamlaw07_Great_in s_0 s_1 s_2 s_3 s_4 s_5 s_6) (f15_broughamlaw07_Great_out r629_0), r629_0 = false, (decide ((((s_5.length : Nat) : Int) : Int) > 60)) = false, (decide ((x_15 : Int) < 4)) = true, true = true] (by kernel_rfl) ⟨(f15_broughamlaw07_Great_ok n s_0 s_1 s_2 s_3 s_4 s_5 s_6 r629_0 cr629_0), b629_2, b629_8, b629_14, rfl, trivial⟩ ?_
        have h := Option.some.inj h
        subst h
        exact At.fin hm ht ⟨[], [], [], [6], []⟩ [] (by kernel_rfl) trivial
      · rcases iteS h with ⟨b629_e0, h⟩ | ⟨b629_e0, h⟩
        · refine At.step hm ht ⟨[(1, .call [] [] (f15_broughamlaw07_Great_out r629_0)), (2, .b false), (8, .b false), (14, .b false)], [true], [], [], []⟩ 2 ⟨[], [], [], 0⟩ [FnOK Go.Proofs.Try.prog 15 (f15_broughamlaw07_Great_in s_0 s_1 s_2 s_3 s_4 s_5 s_6) (f15_broughamlaw07_Great_out r629_0), r629_0 = false, (decide ((((s_5.length : Nat) : Int) : Int) > 60)) = false, (decide ((x_15 : Int) < 4)) = false, (decide ((x_15 : Int) > 7)) = true] (by kernel_rfl) ⟨(f15_broughamlaw07_Great_ok n s_0 s_1 s_2 s_3 s_4 s_5 s_6 r629_0 cr629_0), b629_2, b629_8, b629_14, b629_e0, trivial⟩ ?_
          have h := Option.some.inj h
          subst h
          exact At.fin hm ht ⟨[], [], [], [6], []⟩ [] (by kernel_rfl) trivial
        · refine At.step hm ht ⟨[(1, .call [] [] (f15_broughamlaw07_Great_out r629_0)), (2, .b false), (8, .b false), (14, .b false)], [false], [], [3, 4, 5], [0, 1, 2]⟩ 3 ⟨[(3, .one (.c (.ptr 0 0))), (4, .one (.c (.ptr 1 0))), (5, .one (.c (.ptr 2 0)))], [], [(0, [.d (.int .u64 k_0), .d (.int .u64 k_1)]), (1, [.d (.int .u16 s_0), .d (.int .u16 s_1), .d (.int .u32 s_2), .d (.int .u32 s_3), .d (.int .u8 s_4), .d (.sl (.pair (.int .u8) (.slice (.int .u8))) s_5), .d (.sl (.int .u8) s_6)]), (2, [.d (.int .u64 x_0), .d (.bool x_1), .d (.int .u64 x_2), .d (.int .u32 x_3), .d (.int .u32 x_4), .d (.int .u8 x_5), .d (.bool x_6), .d (.bool x_7), .d (.int .u64 x_8), .d (.bool x_9), .d (.bool x_10), .d (.int .u64 x_11), .d (.int .u64 x_12), .d (.int .u32 x_13), .d (.int .u64 x_14), .d (.int .u8 x_15), .d (.int .u32 x_16), .d (.int .u8 x_17), .d (.int .u8 x_18), .d (.bool x_19), .d (.int .u64 x_20)])], 3⟩ [FnOK Go.Proofs.Try.prog 15 (f15_broughamlaw07_Great_in s_0 s_1 s_2 s_3 s_4 s_5 s_6) (f15_broughamlaw07_Great_out r629_0), r629_0 = false, (decide ((((s_5.length : Nat) : Int) : Int) > 60)) = false, (decide ((x_15 : Int) < 4)) = false, (decide ((x_15 : Int) > 7)) = false] (by kernel_rfl) ⟨(f15_broughamlaw07_Great_ok n s_0 s_1 s_2 s_3 s_4 s_5 s_6 r629_0 cr629_0), b629_2, b629_8, b629_14, b629_e0, trivial⟩ ?_
          refine At.step hm ht ⟨[], [], [], [3, 4, 5, 7], [0, 1, 2]⟩ 4 ⟨[(3, .one (.c (.ptr 0 0))), (4, .one (.c (.ptr 1 0))), (5, .one (.c (.ptr 2 0))), (7, .one (.c (.d (.sl .unit []))))], [], [(0, [.d (.int .u64 k_0), .d (.int .u64 k_1)]), (1, [.d (.int .u16 s_0), .d (.int .u16 s_1), .d (.int .u32 s_2), .d (.int .u32 s_3), .d (.int .u8 s_4), .d (.sl (.pair (.int .u8) (.slice (.int .u8))) s_5), .d (.sl (.int .u8) s_6)]), (2, [.d (.int .u64 x_0), .d (.bool x_1), .d (.int .u64 x_2), .d (.int .u32 x_3), .d (.int .u32 x_4), .d (.int .u8 x_5), .d (.bool x_6), .d (.bool x_7), .d (.int .u64 x_8), .d (.bool x_9), .d (.bool x_10), .d (.int .u64 x_11), .d (.int .u64 x_12), .d (.int .u32 x_13), .d (.int .u64 x_14), .d (.int .u8 x_15), .d (.int .u32 x_16), .d (.int .u8 x_17), .d (.int .u8 x_18), .d (.bool x_19), .d (.int .u64 x_20)])], 3⟩ [] (by kernel_rfl) trivial ?_
          refine At.step hm ht ⟨[], [], [.nil false 7 0 (.pair (.int .u8) (.slice (.int .u8))) (some 30)], [3, 4, 5, 7, 8], [0, 1, 2, 4]⟩ 5 ⟨[(3, .one (.c (.ptr 0 0))), (4, .one (.c (.ptr 1 0))), (5, .one (.c (.ptr 2 0))), (7, .one (.c (.own 3 (.pair (.int .u8) (.slice (.int .u8))) []))), (8, .one (.c (.d (.int .i64 0))))], [(3, some ⟨30, 0⟩)], [(0, [.d (.int .u64 k_0), .d (.int .u64 k_1)]), (1, [.d (.int .u16 s_0), .d (.int .u16 s_1), .d (.int .u32 s_2), .d (.int .u32 s_3), .d (.int .u8 s_4), .d (.sl (.pair (.int .u8) (.slice (.int .u8))) s_5), .d (.sl (.int .u8) s_6)]), (2, [.d (.int .u64 x_0), .d (.bool x_1), .d (.int .u64 x_2), .d (.int .u32 x_3), .d (.int .u32 x_4), .d (.int .u8 x_5), .d (.bool x_6), .d (.bool x_7), .d (.int .u64 x_8), .d (.bool x_9), .d (.bool x_10), .d (.int .u64 x_11), .d (.int .u64 x_12), .d (.int .u32 x_13), .d (.int .u64 x_14), .d (.int .u8 x_15), .d (.int .u32 x_16), .d (.int .u8 x_17), .d (.int .u8 x_18), .d (.bool x_19), .d (.int .u64 x_20)])], 4⟩ [] (by kernel_rfl) trivial ?_
          obtain ⟨w645, cw645, h⟩ := bindS h
          refine f13_broughamlaw10_MacBack_L5_ok n [] 0 k_0 k_1 s_0 s_1 s_2 s_3 s_4 s_5 s_6 x_0 x_1 x_2 x_3 x_4 x_5 x_6 x_7 x_8 x_9 x_10 x_11 x_12 x_13 x_14 x_15 x_16 x_17 x_18 x_19 x_20 w645 cw645 _ ?_
          show At Go.Proofs.Try.prog Go.Proofs.Try.f13 0 9 ⟨[(3, .one (.c (.ptr 0 0))), (4, .one (.c (.ptr 1 0))), (5, .one (.c (.ptr 2 0))), (7, .one (.c (.own 3 (.pair (.int .u8) (.slice (.int .u8))) w645.1)))], [(3, some ⟨30, 0⟩)], [(0, [.d (.int .u64 w645.2.1), .d (.int .u64 w645.2.2.1)]), (1, [.d (.int .u16 w645.2.2.2.1), .d (.int .u16 w645.2.2.2.2.1), .d (.int .u32 w645.2.2.2.2.2.1), .d (.int .u32 w645.2.2.2.2.2.2.1), .d (.int .u8 w645.2.2.2.2.2.2.2.1), .d (.sl (.pair (.int .u8) (.slice (.int .u8))) w645.2.2.2.2.2.2.2.2.1), .d (.sl (.int .u8) w645.2.2.2.2.2.2.2.2.2.1)]), (2, [.d (.int .u64 w645.2.2.2.2.2.2.2.2.2.2.1), .d (.bool w645.2.2.2.2.2.2.2.2.2.2.2.1), .d (.int .u64 w645.2.2.2.2.2.2.2.2.2.2.2.2.1), .d (.int .u32 w645.2.2.2.2.2.2.2.2.2.2.2.2.2.1), .d (.int .u32 w645.2.2.2.2.2.2.2.2.2.2.2.2.2.2.1), .d (.int .u8 w645.2.2.2.2.2.2.2.2.2.2.2.2.2.2.2.1), .d (.bool w645.2.2.2.2.2.2.2.2.2.2.2.2.2.2.2.2.1), .d (.bool w645.2.2.2.2.2.2.2.2.2.2.2.2.2.2.2.2.2.1), .d (.int .u64 w645.2.2.2.2.2.2.2.2.2.2.2.2.2.2.2.2.2.2.1), .d (.bool w645.2.2.2.2.2.2.2.2.2.2.2.2.2.2.2.2.2.2.2.1), .d (.bool w645.2.2.2.2.2.2.2.2.2.2.2.2.2.2.2.2.2.2.2.2.1), .d (.int .u64 w645.2.2.2.2.2.2.2.2.2.2.2.2.2.2.2.2.2.2.2.2.2.1), .d (.int .u64 w645.2.2.2.2.2.2.2.2.2.2.2.2.2.2.2.2.2.2.2.2.2.2.1), .d (.int .u32 w645.2.2.2.2.2.2.2.2.2.2.2.2.2.2.2.2.2.2.2.2.2.2.2.1), .d (.int .u64 w645.2.2.2.2.2.2.2.2.2.2.2.2.2.2.2.2.2.2.2.2.2.2.2.2.1), .d (.int .u8 w645.2.2.2.2.2.2.2.2.2.2.2.2.2.2.2.2.2.2.2.2.2.2.2.2.2.1), .d (.int .u32 w645.2.2.2.2.2.2.2.2.2.2.2.2.2.2.2.2.2.2.2.2.2.2.2.2.2.2.1), .d (.int .u8 w645.2.2.2.2.2.2.2.2.2.2.2.2.2.2.2.2.2.2.2.2.2.2.2.2.2.2.2.1), .d (.int .u8 w645.2.2.2.2.2.2.2.2.2.2.2.2.2.2.2.2.2.2.2.2.2.2.2.2.2.2.2.2.1), .d (.bool w645.2.2.2.2.2.2.2.2.2.2.2.2.2.2.2.2.2.2.2.2.2.2.2.2.2.2.2.2.2.1), .d (.int .u64 w645.2.2.2.2.2.2.2.2.2.2.2.2.2.2.2.2.2.2.2.2.2.2.2.2.2.2.2.2.2.2)])], 4⟩ _
          obtain ⟨r647_0, cr647_0, h⟩ := bindS h
          obtain ⟨r647_1, cr647_1, h⟩ := bindS h
          obtain ⟨r647_2, cr647_2, h⟩ := bindS h
          obtain ⟨g647_3, h⟩ := ifS h
          refine At.step hm ht ⟨[(5, .call [] [] (f62_mac_Word_out r647_0)), (10, .call [] [] (f63_mac_Data_out r647_1)), (15, .call [] [] (f62_mac_Word_out r647_2))], [], [], [3, 4, 5, 7], [0, 1, 2, 24]⟩ 10 ⟨[(3, .one (.c (.ptr 0 0))), (4, .one (.c (.ptr 1 0))), (5, .one (.c (.ptr 2 0))), (7, .one (.c (.own 3 (.pair (.int .u8) (.slice (.int .u8))) (w645.1 ++ [r647_0, r647_1, r647_2]))))], [(3, some ⟨30, 0⟩)], [(0, [.d (.int .u64 w645.2.1), .d (.int .u64 w645.2.2.1)]), (1, [.d (.int .u16 w645.2.2.2.1), .d (.int .u16 w645.2.2.2.2.1), .d (.int .u32 w645.2.2.2.2.2.1), .d (.int .u32 w645.2.2.2.2.2.2.1), .d (.int .u8 w645.2.2.2.2.2.2.2.1), .d (.sl (.pair (.int .u8) (.slice (.int .u8))) w645.2.2.2.2.2.2.2.2.1), .d (.sl (.int .u8) w645.2.2.2.2.2.2.2.2.2.1)]), (2, [.d (.int .u64 w645.2.2.2.2.2.2.2.2.2.2.1), .d (.bool w645.2.2.2.2.2.2.2.2.2.2.2.1), .d (.int .u64 w645.2.2.2.2.2.2.2.2.2.2.2.2.1), .d (.int .u32 w645.2.2.2.2.2.2.2.2.2.2.2.2.2.1), .d (.int .u32 w645.2.2.2.2.2.2.2.2.2.2.2.2.2.2.1), .d (.int .u8 w645.2.2.2.2.2.2.2.2.2.2.2.2.2.2.2.1), .d (.bool w645.2.2.2.2.2.2.2.2.2.2.2.2.2.2.2.2.1), .d (.bool w645.2.2.2.2.2.2.2.2.2.2.2.2.2.2.2.2.2.1), .d (.int .u64 w645.2.2.2.2.2.2.2.2.2.2.2.2.2.2.2.2.2.2.1), .d (.bool w645.2.2.2.2.2.2.2.2.2.2.2.2.2.2.2.2.2.2.2.1), .d (.bool w645.2.2.2.2.2.2.2.2.2.2.2.2.2.2.2.2.2.2.2.2.1), .d (.int .u64 w645.2.2.2.2.2.2.2.2.2.2.2.2.2.2.2.2.2.2.2.2.2.1), .d (.int .u64 w645.2.2.2.2.2.2.2.2.2.2.2.2.2.2.2.2.2.2.2.2.2.2.1), .d (.int .u32 w645.2.2.2.2.2.2.2.2.2.2.2.2.2.2.2.2.2.2.2.2.2.2.2.1), .d (.int .u64 w645.2.2.2.2.2.2.2.2.2.2.2.2.2.2.2.2.2.2.2.2.2.2.2.2.1), .d (.int .u8 w645.2.2.2.2.2.2.2.2.2.2.2.2.2.2.2.2.2.2.2.2.2.2.2.2.2.1), .d (.int .u32 w645.2.2.2.2.2.2.2.2.2.2.2.2.2.2.2.2.2.2.2.2.2.2.2.2.2.2.1), .d (.int .u8 w645.2.2.2.2.2.2.2.2.2.2.2.2.2.2.2.2.2.2.2.2.2.2.2.2.2.2.2.1), .d (.int .u8 w645.2.2.2.2.2.2.2.2.2.2.2.2.2.2.2.2.2.2.2.2.2.2.2.2.2.2.2.2.1), .d (.bool w645.2.2.2.2.2.2.2.2.2.2.2.2.2.2.2.2.2.2.2.2.2.2.2.2.2.2.2.2.2.1), .d (.int .u64 w645.2.2.2.2.2.2.2.2.2.2.2.2.2.2.2.2.2.2.2.2.2.2.2.2.2.2.2.2.2.2)])], 4⟩ [FnOK Go.Proofs.Try.prog 62 (f62_mac_Word_in w645.2.1 w645.2.2.1 w645.2.2.2.1 w645.2.2.2.2.1 w645.2.2.2.2.2.1 w645.2.2.2.2.2.2.1 w645.2.2.2.2.2.2.2.1 w645.2.2.2.2.2.2.2.2.1 w645.2.2.2.2.2.2.2.2.2.1 w645.2.2.2.2.2.2.2.2.2.2.2.2.2.2.2.2.2.2.2.2.2.2.2.2.2.1 w645.2.2.2.2.2.2.2.2.2.2.2.2.2.2.2.2.2.2.2.2.2.2.2.2.2.2.1 w645.2.2.2.2.2.2.2.2.2.2.2.2.2.2.2.2.2.2.2.2.2.2.2.2.2.2.2.1 w645.2.2.2.2.2.2.2.2.2.2.2.2.2.2.2.2.2.2.2.2.2.2.2.2.2.2.2.2.1 w645.2.2.2.2.2.2.2.2.2.2.2.2.2.2.2.2.2.2.2.2.2.2.2.2.2.2.2.2.2.1 w645.2.2.2.2.2.2.2.2.2.2.2.2.2.2.2.2.2.2.2.2.2.2.2.2.2.2.2.2.2.2) (f62_mac_Word_out r647_0), FnOK Go.Proofs.Try.prog 63 (f63_mac_Data_in w645.2.1 w645.2.2.1 w645.2.2.2.1 w645.2.2.2.2.1 w645.2.2.2.2.2.1 w645.2.2.2.2.2.2.1 w645.2.2.2.2.2.2.2.1 w645.2.2.2.2.2.2.2.2.1 w645.2.2.2.2.2.2.2.2.2.1 w645.2.2.2.2.2.2.2.2.2.2.2.2.2.2.2.2.2.2.2.1 w645.2.2.2.2.2.2.2.2.2.2.2.2.2.2.2.2.2.2.2.2.1 w645.2.2.2.2.2.2.2.2.2.2.2.2.2.2.2.2.2.2.2.2.2.1 w645.2.2.2.2.2.2.2.2.2.2.2.2.2.2.2.2.2.2.2.2.2.2.1 w645.2.2.2.2.2.2.2.2.2.2.2.2.2.2.2.2.2.2.2.2.2.2.2.1 w645.2.2.2.2.2.2.2.2.2.2.2.2.2.2.2.2.2.2.2.2.2.2.2.2.1) (f63_mac_Data_out r647_1), FnOK Go.Proofs.Try.prog 62 (f62_mac_Word_in w645.2.1 w645.2.2.1 w645.2.2.2.1 w645.2.2.2.2.1 w645.2.2.2.2.2.1 w645.2.2.2.2.2.2.1 w645.2.2.2.2.2.2.2.1 w645.2.2.2.2.2.2.2.2.1 w645.2.2.2.2.2.2.2.2.2.1 w645.2.2.2.2.2.2.2.2.2.2.2.2.2.2.2.2.2.2.2.2.2.2.2.2.2.1 w645.2.2.2.2.2.2.2.2.2.2.2.2.2.2.2.2.2.2.2.2.2.2.2.2.2.2.1 w645.2.2.2.2.2.2.2.2.2.2.2.2.2.2.2.2.2.2.2.2.2.2.2.2.2.2.2.1 w645.2.2.2.2.2.2.2.2.2.2.2.2.2.2.2.2.2.2.2.2.2.2.2.2.2.2.2.2.1 w645.2.2.2.2.2.2.2.2.2.2.2.2.2.2.2.2.2.2.2.2.2.2.2.2.2.2.2.2.2.1 w645.2.2.2.2.2.2.2.2.2.2.2.2.2.2.2.2.2.2.2.2.2.2.2.2.2.2.2.2.2.2) (f62_mac_Word_out r647_2), w645.1.length + [r647_0, r647_1, r647_2].length ≤ maxLen ∧ (w645.1.length + [r647_0, r647_1, r647_2].length) * 32 ≤ 140737488355328] (by kernel_rfl) ⟨(f62_mac_Word_ok n w645.2.1 w645.2.2.1 w645.2.2.2.1 w645.2.2.2.2.1 w645.2.2.2.2.2.1 w645.2.2.2.2.2.2.1 w645.2.2.2.2.2.2.2.1 w645.2.2.2.2.2.2.2.2.1 w645.2.2.2.2.2.2.2.2.2.1 w645.2.2.2.2.2.2.2.2.2.2.2.2.2.2.2.2.2.2.2.2.2.2.2.2.2.1 w645.2.2.2.2.2.2.2.2.2.2.2.2.2.2.2.2.2.2.2.2.2.2.2.2.2.2.1 w645.2.2.2.2.2.2.2.2.2.2.2.2.2.2.2.2.2.2.2.2.2.2.2.2.2.2.2.1 w645.2.2.2.2.2.2.2.2.2.2.2.2.2.2.2.2.2.2.2.2.2.2.2.2.2.2.2.2.1 w645.2.2.2.2.2.2.2.2.2.2.2.2.2.2.2.2.2.2.2.2.2.2.2.2.2.2.2.2.2.1 w645.2.2.2.2.2.2.2.2.2.2.2.2.2.2.2.2.2.2.2.2.2.2.2.2.2.2.2.2.2.2 r647_0 cr647_0), (f63_mac_Data_ok n w645.2.1 w645.2.2.1 w645.2.2.2.1 w645.2.2.2.2.1 w645.2.2.2.2.2.1 w645.2.2.2.2.2.2.1 w645.2.2.2.2.2.2.2.1 w645.2.2.2.2.2.2.2.2.1 w645.2.2.2.2.2.2.2.2.2.1 w645.2.2.2.2.2.2.2.2.2.2.2.2.2.2.2.2.2.2.2.1 w645.2.2.2.2.2.2.2.2.2.2.2.2.2.2.2.2.2.2.2.2.1 w645.2.2.2.2.2.2.2.2.2.2.2.2.2.2.2.2.2.2.2.2.2.1 w645.2.2.2.2.2.2.2.2.2.2.2.2.2.2.2.2.2.2.2.2.2.2.1 w645.2.2.2.2.2.2.2.2.2.2.2.2.2.2.2.2.2.2.2.2.2.2.2.1 w645.2.2.2.2.2.2.2.2.2.2.2.2.2.2.2.2.2.2.2.2.2.2.2.2.1 r647_1 cr647_1), (f62_mac_Word_ok n w645.2.1 w645.2.2.1 w645.2.2.2.1 w645.2.2.2.2.1 w645.2.2.2.2.2.1 w645.2.2.2.2.2.2.1 w645.2.2.2.2.2.2.2.1 w645.2.2.2.2.2.2.2.2.1 w645.2.2.2.2.2.2.2.2.2.1 w645.2.2.2.2.2.2.2.2.2.2.2.2.2.2.2.2.2.2.2.2.2.2.2.2.2.1 w645.2.2.2.2.2.2.2.2.2.2.2.2.2.2.2.2.2.2.2.2.2.2.2.2.2.2.1 w645.2.2.2.2.2.2.2.2.2.2.2.2.2.2.2.2.2.2.2.2.2.2.2.2.2.2.2.1 w645.2.2.2.2.2.2.2.2.2.2.2.2.2.2.2.2.2.2.2.2.2.2.2.2.2.2.2.2.1 w645.2.2.2.2.2.2.2.2.2.2.2.2.2.2.2.2.2.2.2.2.2.2.2.2.2.2.2.2.2.1 w645.2.2.2.2.2.2.2.2.2.2.2.2.2.2.2.2.2.2.2.2.2.2.2.2.2.2.2.2.2.2 r647_2 cr647_2), g647_3, trivial⟩ ?_
          obtain ⟨r652_0, cr652_0, h⟩ := bindS h
          refine At.step hm ht ⟨[(2, .call [] [] (f55_seg_Of_out r652_0))], [], [], [3, 5, 9], [0, 2, 8, 7]⟩ 11 ⟨[(3, .one (.c (.ptr 0 0))), (5, .one (.c (.ptr 1 0))), (9, .one (.c (.ptr 2 0)))], [(3, some ⟨30, 0⟩)], [(0, [.d (.int .u64 w645.2.1), .d (.int .u64 w645.2.2.1)]), (1, [.d (.int .u64 w645.2.2.2.2.2.2.2.2.2.2.1), .d (.bool w645.2.2.2.2.2.2.2.2.2.2.2.1), .d (.int .u64 w645.2.2.2.2.2.2.2.2.2.2.2.2.1), .d (.int .u32 w645.2.2.2.2.2.2.2.2.2.2.2.2.2.1), .d (.int .u32 w645.2.2.2.2.2.2.2.2.2.2.2.2.2.2.1), .d (.int .u8 w645.2.2.2.2.2.2.2.2.2.2.2.2.2.2.2.1), .d (.bool w645.2.2.2.2.2.2.2.2.2.2.2.2.2.2.2.2.1), .d (.bool w645.2.2.2.2.2.2.2.2.2.2.2.2.2.2.2.2.2.1), .d (.int .u64 w645.2.2.2.2.2.2.2.2.2.2.2.2.2.2.2.2.2.2.1), .d (.bool w645.2.2.2.2.2.2.2.2.2.2.2.2.2.2.2.2.2.2.2.1), .d (.bool w645.2.2.2.2.2.2.2.2.2.2.2.2.2.2.2.2.2.2.2.2.1), .d (.int .u64 w645.2.2.2.2.2.2.2.2.2.2.2.2.2.2.2.2.2.2.2.2.2.1), .d (.int .u64 w645.2.2.2.2.2.2.2.2.2.2.2.2.2.2.2.2.2.2.2.2.2.2.1), .d (.int .u32 w645.2.2.2.2.2.2.2.2.2.2.2.2.2.2.2.2.2.2.2.2.2.2.2.1), .d (.int .u64 w645.2.2.2.2.2.2.2.2.2.2.2.2.2.2.2.2.2.2.2.2.2.2.2.2.1), .d (.int .u8 w645.2.2.2.2.2.2.2.2.2.2.2.2.2.2.2.2.2.2.2.2.2.2.2.2.2.1), .d (.int .u32 w645.2.2.2.2.2.2.2.2.2.2.2.2.2.2.2.2.2.2.2.2.2.2.2.2.2.2.1), .d (.int .u8 w645.2.2.2.2.2.2.2.2.2.2.2.2.2.2.2.2.2.2.2.2.2.2.2.2.2.2.2.1), .d (.int .u8 w645.2.2.2.2.2.2.2.2.2.2.2.2.2.2.2.2.2.2.2.2.2.2.2.2.2.2.2.2.1), .d (.bool w645.2.2.2.2.2.2.2.2.2.2.2.2.2.2.2.2.2.2.2.2.2.2.2.2.2.2.2.2.2.1), .d (.int .u64 w645.2.2.2.2.2.2.2.2.2.2.2.2.2.2.2.2.2.2.2.2.2.2.2.2.2.2.2.2.2.2)]), (2, [.d (.int .u16 r652_0.1), .d (.int .u16 r652_0.2.1), .d (.int .u32 r652_0.2.2.1), .d (.int .u32 r652_0.2.2.2.1), .d (.int .u8 r652_0.2.2.2.2.1), .own 3 (.pair (.int .u8) (.slice (.int .u8))) r652_0.2.2.2.2.2.1, .d (.sl (.int .u8) r652_0.2.2.2.2.2.2)])], 4⟩ [FnOK Go.Proofs.Try.prog 55 (f55_seg_Of_in w645.2.2.2.1 w645.2.2.2.2.1 w645.2.2.2.2.2.1 w645.2.2.2.2.2.2.1 w645.2.2.2.2.2.2.2.1 w645.2.2.2.2.2.2.2.2.1 w645.2.2.2.2.2.2.2.2.2.1 (w645.1 ++ [r647_0, r647_1, r647_2])) (f55_seg_Of_out r652_0), 0 + 7 ≤ 7] (by kernel_rfl) ⟨(f55_seg_Of_ok w645.2.2.2.1 w645.2.2.2.2.1 w645.2.2.2.2.2.1 w645.2.2.2.2.2.2.1 w645.2.2.2.2.2.2.2.1 w645.2.2.2.2.2.2.2.2.1 w645.2.2.2.2.2.2.2.2.2.1 (w645.1 ++ [r647_0, r647_1, r647_2]) r652_0 cr652_0), (by decide), trivial⟩ ?_
          obtain ⟨r653_0, cr653_0, h⟩ := bindS h
          refine At.step hm ht ⟨[(2, .call [] [] (f58_mac_Open_out r653_0))], [], [], [3, 5, 9, 10, 11], [0, 1, 2, 10, 3]⟩ 12 ⟨[(3, .one (.c (.ptr 0 0))), (5, .one (.c (.ptr 1 0))), (9, .one (.c (.ptr 2 0))), (10, .one (.c (.ptr 3 0))), (11, .one (.c (.d (.bool r653_0.1))))], [(4, some ⟨30, 0⟩)], [(0, [.d (.int .u64 w645.2.1), .d (.int .u64 w645.2.2.1)]), (1, [.d (.int .u64 w645.2.2.2.2.2.2.2.2.2.2.1), .d (.bool w645.2.2.2.2.2.2.2.2.2.2.2.1), .d (.int .u64 w645.2.2.2.2.2.2.2.2.2.2.2.2.1), .d (.int .u32 w645.2.2.2.2.2.2.2.2.2.2.2.2.2.1), .d (.int .u32 w645.2.2.2.2.2.2.2.2.2.2.2.2.2.2.1), .d (.int .u8 w645.2.2.2.2.2.2.2.2.2.2.2.2.2.2.2.1), .d (.bool w645.2.2.2.2.2.2.2.2.2.2.2.2.2.2.2.2.1), .d (.bool w645.2.2.2.2.2.2.2.2.2.2.2.2.2.2.2.2.2.1), .d (.int .u64 w645.2.2.2.2.2.2.2.2.2.2.2.2.2.2.2.2.2.2.1), .d (.bool w645.2.2.2.2.2.2.2.2.2.2.2.2.2.2.2.2.2.2.2.1), .d (.bool w645.2.2.2.2.2.2.2.2.2.2.2.2.2.2.2.2.2.2.2.2.1), .d (.int .u64 w645.2.2.2.2.2.2.2.2.2.2.2.2.2.2.2.2.2.2.2.2.2.1), .d (.int .u64 w645.2.2.2.2.2.2.2.2.2.2.2.2.2.2.2.2.2.2.2.2.2.2.1), .d (.int .u32 w645.2.2.2.2.2.2.2.2.2.2.2.2.2.2.2.2.2.2.2.2.2.2.2.1), .d (.int .u64 w645.2.2.2.2.2.2.2.2.2.2.2.2.2.2.2.2.2.2.2.2.2.2.2.2.1), .d (.int .u8 w645.2.2.2.2.2.2.2.2.2.2.2.2.2.2.2.2.2.2.2.2.2.2.2.2.2.1), .d (.int .u32 w645.2.2.2.2.2.2.2.2.2.2.2.2.2.2.2.2.2.2.2.2.2.2.2.2.2.2.1), .d (.int .u8 w645.2.2.2.2.2.2.2.2.2.2.2.2.2.2.2.2.2.2.2.2.2.2.2.2.2.2.2.1), .d (.int .u8 w645.2.2.2.2.2.2.2.2.2.2.2.2.2.2.2.2.2.2.2.2.2.2.2.2.2.2.2.2.1), .d (.bool w645.2.2.2.2.2.2.2.2.2.2.2.2.2.2.2.2.2.2.2.2.2.2.2.2.2.2.2.2.2.1), .d (.int .u64 w645.2.2.2.2.2.2.2.2.2.2.2.2.2.2.2.2.2.2.2.2.2.2.2.2.2.2.2.2.2.2)]), (2, [.d (.int .u16 r652_0.1), .d (.int .u16 r652_0.2.1), .d (.int .u32 r652_0.2.2.1), .d (.int .u32 r652_0.2.2.2.1), .d (.int .u8 r652_0.2.2.2.2.1), .own 4 (.pair (.int .u8) (.slice (.int .u8))) r652_0.2.2.2.2.2.1, .d (.sl (.int .u8) r652_0.2.2.2.2.2.2)]), (3, [.d (.bool r653_0.2.1), .d (.bool r653_0.2.2.1), .d (.int .u64 r653_0.2.2.2.1), .d (.int .u64 r653_0.2.2.2.2.1), .d (.int .u32 r653_0.2.2.2.2.2.1), .d (.int .u64 r653_0.2.2.2.2.2.2)])], 5⟩ [FnOK Go.Proofs.Try.prog 58 (f58_mac_Open_in w645.2.1 w645.2.2.1 r652_0.1 r652_0.2.1 r652_0.2.2.1 r652_0.2.2.2.1 r652_0.2.2.2.2.1 r652_0.2.2.2.2.2.1 r652_0.2.2.2.2.2.2) (f58_mac_Open_out r653_0), 0 + 6 ≤ 6] (by kernel_rfl) ⟨(f58_mac_Open_ok n w645.2.1 w645.2.2.1 r652_0.1 r652_0.2.1 r652_0.2.2.1 r652_0.2.2.2.1 r652_0.2.2.2.2.1 r652_0.2.2.2.2.2.1 r652_0.2.2.2.2.2.2 r653_0 cr653_0), (by decide), trivial⟩ ?_
          obtain ⟨r654_0, cr654_0, h⟩ := bindS h
          refine At.step hm ht ⟨[(2, .call [] [] (f60_mac_Words_out r654_0))], [], [], [5, 10, 11, 12], [1, 3, 7]⟩ 13 ⟨[(5, .one (.c (.ptr 0 0))), (10, .one (.c (.ptr 1 0))), (11, .one (.c (.d (.bool r653_0.1)))), (12, .one (.c (.own 2 (.pair (.int .u8) (.pair (.int .u32) (.pair (.int .u8) (.pair (.int .u8) (.pair .bool (.int .u64)))))) r654_0)))], [(2, some ⟨46, 0⟩)], [(0, [.d (.int .u64 w645.2.2.2.2.2.2.2.2.2.2.1), .d (.bool w645.2.2.2.2.2.2.2.2.2.2.2.1), .d (.int .u64 w645.2.2.2.2.2.2.2.2.2.2.2.2.1), .d (.int .u32 w645.2.2.2.2.2.2.2.2.2.2.2.2.2.1), .d (.int .u32 w645.2.2.2.2.2.2.2.2.2.2.2.2.2.2.1), .d (.int .u8 w645.2.2.2.2.2.2.2.2.2.2.2.2.2.2.2.1), .d (.bool w645.2.2.2.2.2.2.2.2.2.2.2.2.2.2.2.2.1), .d (.bool w645.2.2.2.2.2.2.2.2.2.2.2.2.2.2.2.2.2.1), .d (.int .u64 w645.2.2.2.2.2.2.2.2.2.2.2.2.2.2.2.2.2.2.1), .d (.bool w645.2.2.2.2.2.2.2.2.2.2.2.2.2.2.2.2.2.2.2.1), .d (.bool w645.2.2.2.2.2.2.2.2.2.2.2.2.2.2.2.2.2.2.2.2.1), .d (.int .u64 w645.2.2.2.2.2.2.2.2.2.2.2.2.2.2.2.2.2.2.2.2.2.1), .d (.int .u64 w645.2.2.2.2.2.2.2.2.2.2.2.2.2.2.2.2.2.2.2.2.2.2.1), .d (.int .u32 w645.2.2.2.2.2.2.2.2.2.2.2.2.2.2.2.2.2.2.2.2.2.2.2.1), .d (.int .u64 w645.2.2.2.2.2.2.2.2.2.2.2.2.2.2.2.2.2.2.2.2.2.2.2.2.1), .d (.int .u8 w645.2.2.2.2.2.2.2.2.2.2.2.2.2.2.2.2.2.2.2.2.2.2.2.2.2.1), .d (.int .u32 w645.2.2.2.2.2.2.2.2.2.2.2.2.2.2.2.2.2.2.2.2.2.2.2.2.2.2.1), .d (.int .u8 w645.2.2.2.2.2.2.2.2.2.2.2.2.2.2.2.2.2.2.2.2.2.2.2.2.2.2.2.1), .d (.int .u8 w645.2.2.2.2.2.2.2.2.2.2.2.2.2.2.2.2.2.2.2.2.2.2.2.2.2.2.2.2.1), .d (.bool w645.2.2.2.2.2.2.2.2.2.2.2.2.2.2.2.2.2.2.2.2.2.2.2.2.2.2.2.2.2.1), .d (.int .u64 w645.2.2.2.2.2.2.2.2.2.2.2.2.2.2.2.2.2.2.2.2.2.2.2.2.2.2.2.2.2.2)]), (1, [.d (.bool r653_0.2.1), .d (.bool r653_0.2.2.1), .d (.int .u64 r653_0.2.2.2.1), .d (.int .u64 r653_0.2.2.2.2.1), .d (.int .u32 r653_0.2.2.2.2.2.1), .d (.int .u64 r653_0.2.2.2.2.2.2)])], 3⟩ [FnOK Go.Proofs.Try.prog 60 (f60_mac_Words_in w645.2.1 w645.2.2.1 r652_0.1 r652_0.2.1 r652_0.2.2.1 r652_0.2.2.2.1 r652_0.2.2.2.2.1 r652_0.2.2.2.2.2.1 r652_0.2.2.2.2.2.2) (f60_mac_Words_out r654_0)] (by kernel_rfl) ⟨(f60_mac_Words_ok n w645.2.1 w645.2.2.1 r652_0.1 r652_0.2.1 r652_0.2.2.1 r652_0.2.2.2.1 r652_0.2.2.2.2.1 r652_0.2.2.2.2.2.1 r652_0.2.2.2.2.2.2 r654_0 cr654_0), trivial⟩ ?_
          refine At.step hm ht ⟨[], [], [], [5, 10, 11, 12, 13], [0, 1, 2, 5]⟩ 14 ⟨[(5, .one (.c (.ptr 0 0))), (10, .one (.c (.ptr 1 0))), (11, .one (.c (.d (.bool r653_0.1)))), (12, .one (.c (.own 2 (.pair (.int .u8) (.pair (.int .u32) (.pair (.int .u8) (.pair (.int .u8) (.pair .bool (.int .u64)))))) r654_0))), (13, .one (.c (.ptr 3 0)))], [(2, some ⟨46, 0⟩)], [(0, [.d (.int .u64 w645.2.2.2.2.2.2.2.2.2.2.1), .d (.bool w645.2.2.2.2.2.2.2.2.2.2.2.1), .d (.int .u64 w645.2.2.2.2.2.2.2.2.2.2.2.2.1), .d (.int .u32 w645.2.2.2.2.2.2.2.2.2.2.2.2.2.1), .d (.int .u32 w645.2.2.2.2.2.2.2.2.2.2.2.2.2.2.1), .d (.int .u8 w645.2.2.2.2.2.2.2.2.2.2.2.2.2.2.2.1), .d (.bool w645.2.2.2.2.2.2.2.2.2.2.2.2.2.2.2.2.1), .d (.bool w645.2.2.2.2.2.2.2.2.2.2.2.2.2.2.2.2.2.1), .d (.int .u64 w645.2.2.2.2.2.2.2.2.2.2.2.2.2.2.2.2.2.2.1), .d (.bool w645.2.2.2.2.2.2.2.2.2.2.2.2.2.2.2.2.2.2.2.1), .d (.bool w645.2.2.2.2.2.2.2.2.2.2.2.2.2.2.2.2.2.2.2.2.1), .d (.int .u64 w645.2.2.2.2.2.2.2.2.2.2.2.2.2.2.2.2.2.2.2.2.2.1), .d (.int .u64 w645.2.2.2.2.2.2.2.2.2.2.2.2.2.2.2.2.2.2.2.2.2.2.1), .d (.int .u32 w645.2.2.2.2.2.2.2.2.2.2.2.2.2.2.2.2.2.2.2.2.2.2.2.1), .d (.int .u64 w645.2.2.2.2.2.2.2.2.2.2.2.2.2.2.2.2.2.2.2.2.2.2.2.2.1), .d (.int .u8 w645.2.2.2.2.2.2.2.2.2.2.2.2.2.2.2.2.2.2.2.2.2.2.2.2.2.1), .d (.int .u32 w645.2.2.2.2.2.2.2.2.2.2.2.2.2.2.2.2.2.2.2.2.2.2.2.2.2.2.1), .d (.int .u8 w645.2.2.2.2.2.2.2.2.2.2.2.2.2.2.2.2.2.2.2.2.2.2.2.2.2.2.2.1), .d (.int .u8 w645.2.2.2.2.2.2.2.2.2.2.2.2.2.2.2.2.2.2.2.2.2.2.2.2.2.2.2.2.1), .d (.bool w645.2.2.2.2.2.2.2.2.2.2.2.2.2.2.2.2.2.2.2.2.2.2.2.2.2.2.2.2.2.1), .d (.int .u64 w645.2.2.2.2.2.2.2.2.2.2.2.2.2.2.2.2.2.2.2.2.2.2.2.2.2.2.2.2.2.2)]), (1, [.d (.bool r653_0.2.1), .d (.bool r653_0.2.2.1), .d (.int .u64 r653_0.2.2.2.1), .d (.int .u64 r653_0.2.2.2.2.1), .d (.int .u32 r653_0.2.2.2.2.2.1), .d (.int .u64 r653_0.2.2.2.2.2.2)]), (3, [.d (.bool w645.2.2.2.2.2.2.2.2.2.2.2.2.2.2.2.2.2.2.2.1), .d (.bool w645.2.2.2.2.2.2.2.2.2.2.2.2.2.2.2.2.2.2.2.2.1), .d (.int .u64 w645.2.2.2.2.2.2.2.2.2.2.2.2.2.2.2.2.2.2.2.2.2.1), .d (.int .u64 w645.2.2.2.2.2.2.2.2.2.2.2.2.2.2.2.2.2.2.2.2.2.2.1), .d (.int .u32 w645.2.2.2.2.2.2.2.2.2.2.2.2.2.2.2.2.2.2.2.2.2.2.2.1), .d (.int .u64 w645.2.2.2.2.2.2.2.2.2.2.2.2.2.2.2.2.2.2.2.2.2.2.2.2.1)])], 4⟩ [0 + 6 ≤ 6] (by kernel_rfl) ⟨(by decide), trivial⟩ ?_
          refine At.step hm ht ⟨[], [], [], [5, 10, 11, 12, 13], [0, 1, 2, 3]⟩ 15 ⟨[(5, .one (.c (.ptr 0 0))), (10, .one (.c (.ptr 1 0))), (11, .one (.c (.d (.bool r653_0.1)))), (12, .one (.c (.own 2 (.pair (.int .u8) (.pair (.int .u32) (.pair (.int .u8) (.pair (.int .u8) (.pair .bool (.int .u64)))))) r654_0))), (13, .one (.c (.ptr 3 0)))], [(2, some ⟨46, 0⟩)], [(0, [.d (.int .u64 w645.2.2.2.2.2.2.2.2.2.2.1), .d (.bool w645.2.2.2.2.2.2.2.2.2.2.2.1), .d (.int .u64 w645.2.2.2.2.2.2.2.2.2.2.2.2.1), .d (.int .u32 w645.2.2.2.2.2.2.2.2.2.2.2.2.2.1), .d (.int .u32 w645.2.2.2.2.2.2.2.2.2.2.2.2.2.2.1), .d (.int .u8 w645.2.2.2.2.2.2.2.2.2.2.2.2.2.2.2.1), .d (.bool w645.2.2.2.2.2.2.2.2.2.2.2.2.2.2.2.2.1), .d (.bool w645.2.2.2.2.2.2.2.2.2.2.2.2.2.2.2.2.2.1), .d (.int .u64 w645.2.2.2.2.2.2.2.2.2.2.2.2.2.2.2.2.2.2.1), .d (.bool w645.2.2.2.2.2.2.2.2.2.2.2.2.2.2.2.2.2.2.2.1), .d (.bool w645.2.2.2.2.2.2.2.2.2.2.2.2.2.2.2.2.2.2.2.2.1), .d (.int .u64 w645.2.2.2.2.2.2.2.2.2.2.2.2.2.2.2.2.2.2.2.2.2.1), .d (.int .u64 w645.2.2.2.2.2.2.2.2.2.2.2.2.2.2.2.2.2.2.2.2.2.2.1), .d (.int .u32 w645.2.2.2.2.2.2.2.2.2.2.2.2.2.2.2.2.2.2.2.2.2.2.2.1), .d (.int .u64 w645.2.2.2.2.2.2.2.2.2.2.2.2.2.2.2.2.2.2.2.2.2.2.2.2.1), .d (.int .u8 w645.2.2.2.2.2.2.2.2.2.2.2.2.2.2.2.2.2.2.2.2.2.2.2.2.2.1), .d (.int .u32 w645.2.2.2.2.2.2.2.2.2.2.2.2.2.2.2.2.2.2.2.2.2.2.2.2.2.2.1), .d (.int .u8 w645.2.2.2.2.2.2.2.2.2.2.2.2.2.2.2.2.2.2.2.2.2.2.2.2.2.2.2.1), .d (.int .u8 w645.2.2.2.2.2.2.2.2.2.2.2.2.2.2.2.2.2.2.2.2.2.2.2.2.2.2.2.2.1), .d (.bool w645.2.2.2.2.2.2.2.2.2.2.2.2.2.2.2.2.2.2.2.2.2.2.2.2.2.2.2.2.2.1), .d (.int .u64 w645.2.2.2.2.2.2.2.2.2.2.2.2.2.2.2.2.2.2.2.2.2.2.2.2.2.2.2.2.2.2)]), (1, [.d (.bool r653_0.2.1), .d (.bool r653_0.2.2.1), .d (.int .u64 r653_0.2.2.2.1), .d (.int .u64 r653_0.2.2.2.2.1), .d (.int .u32 r653_0.2.2.2.2.2.1), .d (.int .u64 r653_0.2.2.2.2.2.2)]), (3, [.d (.bool w645.2.2.2.2.2.2.2.2.2.2.2.2.2.2.2.2.2.2.2.1), .d (.bool w645.2.2.2.2.2.2.2.2.2.2.2.2.2.2.2.2.2.2.2.2.1), .d (.int .u64 w645.2.2.2.2.2.2.2.2.2.2.2.2.2.2.2.2.2.2.2.2.2.1), .d (.int .u64 w645.2.2.2.2.2.2.2.2.2.2.2.2.2.2.2.2.2.2.2.2.2.2.1), .d (.int .u32 w645.2.2.2.2.2.2.2.2.2.2.2.2.2.2.2.2.2.2.2.2.2.2.2.1), .d (.int .u64 r653_0.2.2.2.2.2.2)])], 4⟩ [5 + 1 ≤ 6] (by kernel_rfl) ⟨(by decide), trivial⟩ ?_
          rcases iteS h with ⟨b657_2, h⟩ | ⟨b657_2, h⟩
          · refine At.step hm ht ⟨[(2, .b true)], [true], [], [], []⟩ 16 ⟨[], [], [], 0⟩ [(!r653_0.1) = true, true = true] (by kernel_rfl) ⟨b657_2, rfl, trivial⟩ ?_
            have h := Option.some.inj h
            subst h
            exact At.fin hm ht ⟨[], [], [], [6], []⟩ [] (by kernel_rfl) trivial
          · rcases iteS h with ⟨b657_7, h⟩ | ⟨b657_7, h⟩
            · refine At.step hm ht ⟨[(2, .b false), (7, .b true)], [true], [], [], []⟩ 16 ⟨[], [], [], 0⟩ [(!r653_0.1) = false, (!((r653_0.2.1 == w645.2.2.2.2.2.2.2.2.2.2.2.2.2.2.2.2.2.2.2.1) && ((r653_0.2.2.1 == w645.2.2.2.2.2.2.2.2.2.2.2.2.2.2.2.2.2.2.2.2.1) && (((r653_0.2.2.2.1 : Int) == w645.2.2.2.2.2.2.2.2.2.2.2.2.2.2.2.2.2.2.2.2.2.1) && (((r653_0.2.2.2.2.1 : Int) == w645.2.2.2.2.2.2.2.2.2.2.2.2.2.2.2.2.2.2.2.2.2.2.1) && (((r653_0.2.2.2.2.2.1 : Int) == w645.2.2.2.2.2.2.2.2.2.2.2.2.2.2.2.2.2.2.2.2.2.2.2.1) && ((r653_0.2.2.2.2.2.2 : Int) == r653_0.2.2.2.2.2.2))))))) = true, true = true] (by kernel_rfl) ⟨b657_2, b657_7, rfl, trivial⟩ ?_
              have h := Option.some.inj h
              subst h
              exact At.fin hm ht ⟨[], [], [], [6], []⟩ [] (by kernel_rfl) trivial
            · rcases iteS h with ⟨b657_e0, h⟩ | ⟨b657_e0, h⟩
              · refine At.step hm ht ⟨[(2, .b false), (7, .b false)], [true], [], [], []⟩ 16 ⟨[], [], [], 0⟩ [(!r653_0.1) = false, (!((r653_0.2.1 == w645.2.2.2.2.2.2.2.2.2.2.2.2.2.2.2.2.2.2.2.1) && ((r653_0.2.2.1 == w645.2.2.2.2.2.2.2.2.2.2.2.2.2.2.2.2.2.2.2.2.1) && (((r653_0.2.2.2.1 : Int) == w645.2.2.2.2.2.2.2.2.2.2.2.2.2.2.2.2.2.2.2.2.2.1) && (((r653_0.2.2.2.2.1 : Int) == w645.2.2.2.2.2.2.2.2.2.2.2.2.2.2.2.2.2.2.2.2.2.2.1) && (((r653_0.2.2.2.2.2.1 : Int) == w645.2.2.2.2.2.2.2.2.2.2.2.2.2.2.2.2.2.2.2.2.2.2.2.1) && ((r653_0.2.2.2.2.2.2 : Int) == r653_0.2.2.2.2.2.2))))))) = false, ((((r654_0.length : Nat) : Int) : Int) != 2) = true] (by kernel_rfl) ⟨b657_2, b657_7, b657_e0, trivial⟩ ?_
                have h := Option.some.inj h
                subst h
                exact At.fin hm ht ⟨[], [], [], [6], []⟩ [] (by kernel_rfl) trivial
              · refine At.step hm ht ⟨[(2, .b false), (7, .b false)], [false], [], [5, 12], [0, 2]⟩ 17 ⟨[(5, .one (.c (.ptr 0 0))), (12, .one (.c (.own 1 (.pair (.int .u8) (.pair (.int .u32) (.pair (.int .u8) (.pair (.int .u8) (.pair .bool (.int .u64)))))) r654_0)))], [(1, some ⟨46, 0⟩)], [(0, [.d (.int .u64 w645.2.2.2.2.2.2.2.2.2.2.1), .d (.bool w645.2.2.2.2.2.2.2.2.2.2.2.1), .d (.int .u64 w645.2.2.2.2.2.2.2.2.2.2.2.2.1), .d (.int .u32 w645.2.2.2.2.2.2.2.2.2.2.2.2.2.1), .d (.int .u32 w645.2.2.2.2.2.2.2.2.2.2.2.2.2.2.1), .d (.int .u8 w645.2.2.2.2.2.2.2.2.2.2.2.2.2.2.2.1), .d (.bool w645.2.2.2.2.2.2.2.2.2.2.2.2.2.2.2.2.1), .d (.bool w645.2.2.2.2.2.2.2.2.2.2.2.2.2.2.2.2.2.1), .d (.int .u64 w645.2.2.2.2.2.2.2.2.2.2.2.2.2.2.2.2.2.2.1), .d (.bool w645.2.2.2.2.2.2.2.2.2.2.2.2.2.2.2.2.2.2.2.1), .d (.bool w645.2.2.2.2.2.2.2.2.2.2.2.2.2.2.2.2.2.2.2.2.1), .d (.int .u64 w645.2.2.2.2.2.2.2.2.2.2.2.2.2.2.2.2.2.2.2.2.2.1), .d (.int .u64 w645.2.2.2.2.2.2.2.2.2.2.2.2.2.2.2.2.2.2.2.2.2.2.1), .d (.int .u32 w645.2.2.2.2.2.2.2.2.2.2.2.2.2.2.2.2.2.2.2.2.2.2.2.1), .d (.int .u64 w645.2.2.2.2.2.2.2.2.2.2.2.2.2.2.2.2.2.2.2.2.2.2.2.2.1), .d (.int .u8 w645.2.2.2.2.2.2.2.2.2.2.2.2.2.2.2.2.2.2.2.2.2.2.2.2.2.1), .d (.int .u32 w645.2.2.2.2.2.2.2.2.2.2.2.2.2.2.2.2.2.2.2.2.2.2.2.2.2.2.1), .d (.int .u8 w645.2.2.2.2.2.2.2.2.2.2.2.2.2.2.2.2.2.2.2.2.2.2.2.2.2.2.2.1), .d (.int .u8 w645.2.2.2.2.2.2.2.2.2.2.2.2.2.2.2.2.2.2.2.2.2.2.2.2.2.2.2.2.1), .d (.bool w645.2.2.2.2.2.2.2.2.2.2.2.2.2.2.2.2.2.2.2.2.2.2.2.2.2.2.2.2.2.1), .d (.int .u64 w645.2.2.2.2.2.2.2.2.2.2.2.2.2.2.2.2.2.2.2.2.2.2.2.2.2.2.2.2.2.2)])], 2⟩ [(!r653_0.1) = false, (!((r653_0.2.1 == w645.2.2.2.2.2.2.2.2.2.2.2.2.2.2.2.2.2.2.2.1) && ((r653_0.2.2.1 == w645.2.2.2.2.2.2.2.2.2.2.2.2.2.2.2.2.2.2.2.2.1) && (((r653_0.2.2.2.1 : Int) == w645.2.2.2.2.2.2.2.2.2.2.2.2.2.2.2.2.2.2.2.2.2.1) && (((r653_0.2.2.2.2.1 : Int) == w645.2.2.2.2.2.2.2.2.2.2.2.2.2.2.2.2.2.2.2.2.2.2.1) && (((r653_0.2.2.2.2.2.1 : Int) == w645.2.2.2.2.2.2.2.2.2.2.2.2.2.2.2.2.2.2.2.2.2.2.2.1) && ((r653_0.2.2.2.2.2.2 : Int) == r653_0.2.2.2.2.2.2))))))) = false, ((((r654_0.length : Nat) : Int) : Int) != 2) = false] (by kernel_rfl) ⟨b657_2, b657_7, b657_e0, trivial⟩ ?_
                refine At.step hm ht ⟨[], [], [], [12, 14], [1, 4]⟩ 18 ⟨[(12, .one (.c (.own 0 (.pair (.int .u8) (.pair (.int .u32) (.pair (.int .u8) (.pair (.int .u8) (.pair .bool (.int .u64)))))) r654_0))), (14, .one (.c (.ptr 1 0)))], [(0, some ⟨46, 0⟩)], [(1, [.d (.int .u8 w645.2.2.2.2.2.2.2.2.2.2.2.2.2.2.2.2.2.2.2.2.2.2.2.2.2.1), .d (.int .u32 w645.2.2.2.2.2.2.2.2.2.2.2.2.2.2.2.2.2.2.2.2.2.2.2.2.2.2.1), .d (.int .u8 w645.2.2.2.2.2.2.2.2.2.2.2.2.2.2.2.2.2.2.2.2.2.2.2.2.2.2.2.1), .d (.int .u8 w645.2.2.2.2.2.2.2.2.2.2.2.2.2.2.2.2.2.2.2.2.2.2.2.2.2.2.2.2.1), .d (.bool w645.2.2.2.2.2.2.2.2.2.2.2.2.2.2.2.2.2.2.2.2.2.2.2.2.2.2.2.2.2.1), .d (.int .u64 w645.2.2.2.2.2.2.2.2.2.2.2.2.2.2.2.2.2.2.2.2.2.2.2.2.2.2.2.2.2.2)])], 2⟩ [0 + 6 ≤ 6] (by kernel_rfl) ⟨(by decide), trivial⟩ ?_
                obtain ⟨g662_0, h⟩ := ifS h
                refine At.step hm ht ⟨[], [], [], [12, 14], [0, 1]⟩ 19 ⟨[(12, .one (.c (.own 0 (.pair (.int .u8) (.pair (.int .u32) (.pair (.int .u8) (.pair (.int .u8) (.pair .bool (.int .u64)))))) r654_0))), (14, .one (.c (.ptr 1 0)))], [(0, some ⟨46, 0⟩)], [(1, [.d (.int .u8 w645.2.2.2.2.2.2.2.2.2.2.2.2.2.2.2.2.2.2.2.2.2.2.2.2.2.1), .d (.int .u32 w645.2.2.2.2.2.2.2.2.2.2.2.2.2.2.2.2.2.2.2.2.2.2.2.2.2.2.1), .d (.int .u8 w645.2.2.2.2.2.2.2.2.2.2.2.2.2.2.2.2.2.2.2.2.2.2.2.2.2.2.2.1), .d (.int .u8 w645.2.2.2.2.2.2.2.2.2.2.2.2.2.2.2.2.2.2.2.2.2.2.2.2.2.2.2.2.1), .d (.bool w645.2.2.2.2.2.2.2.2.2.2.2.2.2.2.2.2.2.2.2.2.2.2.2.2.2.2.2.2.2.1), .d (.int .u64 ((((((r654_0.getD 0 (0, (0, (0, (0, (false, 0)))))).2).2).2).2).2))])], 2⟩ [(0 : Int) ≤ 0 ∧ 0 < (((r654_0).length : Nat) : Int), 5 + 1 ≤ 6] (by kernel_rfl) ⟨g662_0, (by decide), trivial⟩ ?_
                obtain ⟨g663_0, h⟩ := ifS h
                rcases iteS h with ⟨b663_5, h⟩ | ⟨b663_5, h⟩
                · obtain ⟨g663_1, h⟩ := ifS h
                  rcases iteS h with ⟨b663_12, h⟩ | ⟨b663_12, h⟩
                  · obtain ⟨r663_2, cr663_2, h⟩ := bindS h
                    have h := Option.some.inj h
                    subst h
                    exact At.fin hm ht ⟨[(5, .b true), (12, .b true), (13, .call [] [] (f57_broughamlaw10_alive_out r663_2))], [], [], [6], []⟩ [(0 : Int) ≤ 0 ∧ 0 < (((r654_0).length : Nat) : Int), (((((r654_0.getD 0 (0, (0, (0, (0, (false, 0)))))).1) : Int) == w645.2.2.2.2.2.2.2.2.2.2.2.2.2.2.2.2.2.2.2.2.2.2.2.2.2.1) && ((((((r654_0.getD 0 (0, (0, (0, (0, (false, 0)))))).2).1) : Int) == w645.2.2.2.2.2.2.2.2.2.2.2.2.2.2.2.2.2.2.2.2.2.2.2.2.2.2.1) && (((((((r654_0.getD 0 (0, (0, (0, (0, (false, 0)))))).2).2).1) : Int) == w645.2.2.2.2.2.2.2.2.2.2.2.2.2.2.2.2.2.2.2.2.2.2.2.2.2.2.2.1) && ((((((((r654_0.getD 0 (0, (0, (0, (0, (false, 0)))))).2).2).2).1) : Int) == w645.2.2.2.2.2.2.2.2.2.2.2.2.2.2.2.2.2.2.2.2.2.2.2.2.2.2.2.2.1) && ((((((((r654_0.getD 0 (0, (0, (0, (0, (false, 0)))))).2).2).2).2).1) == w645.2.2.2.2.2.2.2.2.2.2.2.2.2.2.2.2.2.2.2.2.2.2.2.2.2.2.2.2.2.1) && ((((((((r654_0.getD 0 (0, (0, (0, (0, (false, 0)))))).2).2).2).2).2) : Int) == ((((((r654_0.getD 0 (0, (0, (0, (0, (false, 0)))))).2).2).2).2).2))))))) = true, (0 : Int) ≤ 1 ∧ 1 < (((r654_0).length : Nat) : Int), (((((r654_0.getD 1 (0, (0, (0, (0, (false, 0)))))).1) : Int) == w645.2.2.2.2.2.2.2.2.2.2.2.2.2.2.2.2.2.2.2.2.2.2.2.2.2.1) && ((((((r654_0.getD 1 (0, (0, (0, (0, (false, 0)))))).2).1) : Int) == w645.2.2.2.2.2.2.2.2.2.2.2.2.2.2.2.2.2.2.2.2.2.2.2.2.2.2.1) && (((((((r654_0.getD 1 (0, (0, (0, (0, (false, 0)))))).2).2).1) : Int) == w645.2.2.2.2.2.2.2.2.2.2.2.2.2.2.2.2.2.2.2.2.2.2.2.2.2.2.2.1) && ((((((((r654_0.getD 1 (0, (0, (0, (0, (false, 0)))))).2).2).2).1) : Int) == w645.2.2.2.2.2.2.2.2.2.2.2.2.2.2.2.2.2.2.2.2.2.2.2.2.2.2.2.2.1) && ((((((((r654_0.getD 1 (0, (0, (0, (0, (false, 0)))))).2).2).2).2).1) == w645.2.2.2.2.2.2.2.2.2.2.2.2.2.2.2.2.2.2.2.2.2.2.2.2.2.2.2.2.2.1) && ((((((((r654_0.getD 1 (0, (0, (0, (0, (false, 0)))))).2).2).2).2).2) : Int) == ((((((r654_0.getD 0 (0, (0, (0, (0, (false, 0)))))).2).2).2).2).2))))))) = true, FnOK Go.Proofs.Try.prog 57 (f57_broughamlaw10_alive_in) (f57_broughamlaw10_alive_out r663_2)] (by kernel_rfl) ⟨g663_0, b663_5, g663_1, b663_12, (f57_broughamlaw10_alive_ok n r663_2 cr663_2), trivial⟩
                  · have h := Option.some.inj h
                    subst h
                    exact At.fin hm ht ⟨[(5, .b true), (12, .b false)], [], [], [6], []⟩ [(0 : Int) ≤ 0 ∧ 0 < (((r654_0).length : Nat) : Int), (((((r654_0.getD 0 (0, (0, (0, (0, (false, 0)))))).1) : Int) == w645.2.2.2.2.2.2.2.2.2.2.2.2.2.2.2.2.2.2.2.2.2.2.2.2.2.1) && ((((((r654_0.getD 0 (0, (0, (0, (0, (false, 0)))))).2).1) : Int) == w645.2.2.2.2.2.2.2.2.2.2.2.2.2.2.2.2.2.2.2.2.2.2.2.2.2.2.1) && (((((((r654_0.getD 0 (0, (0, (0, (0, (false, 0)))))).2).2).1) : Int) == w645.2.2.2.2.2.2.2.2.2.2.2.2.2.2.2.2.2.2.2.2.2.2.2.2.2.2.2.1) && ((((((((r654_0.getD 0 (0, (0, (0, (0, (false, 0)))))).2).2).2).1) : Int) == w645.2.2.2.2.2.2.2.2.2.2.2.2.2.2.2.2.2.2.2.2.2.2.2.2.2.2.2.2.1) && ((((((((r654_0.getD 0 (0, (0, (0, (0, (false, 0)))))).2).2).2).2).1) == w645.2.2.2.2.2.2.2.2.2.2.2.2.2.2.2.2.2.2.2.2.2.2.2.2.2.2.2.2.2.1) && ((((((((r654_0.getD 0 (0, (0, (0, (0, (false, 0)))))).2).2).2).2).2) : Int) == ((((((r654_0.getD 0 (0, (0, (0, (0, (false, 0)))))).2).2).2).2).2))))))) = true, (0 : Int) ≤ 1 ∧ 1 < (((r654_0).length : Nat) : Int), (((((r654_0.getD 1 (0, (0, (0, (0, (false, 0)))))).1) : Int) == w645.2.2.2.2.2.2.2.2.2.2.2.2.2.2.2.2.2.2.2.2.2.2.2.2.2.1) && ((((((r654_0.getD 1 (0, (0, (0, (0, (false, 0)))))).2).1) : Int) == w645.2.2.2.2.2.2.2.2.2.2.2.2.2.2.2.2.2.2.2.2.2.2.2.2.2.2.1) && (((((((r654_0.getD 1 (0, (0, (0, (0, (false, 0)))))).2).2).1) : Int) == w645.2.2.2.2.2.2.2.2.2.2.2.2.2.2.2.2.2.2.2.2.2.2.2.2.2.2.2.1) && ((((((((r654_0.getD 1 (0, (0, (0, (0, (false, 0)))))).2).2).2).1) : Int) == w645.2.2.2.2.2.2.2.2.2.2.2.2.2.2.2.2.2.2.2.2.2.2.2.2.2.2.2.2.1) && ((((((((r654_0.getD 1 (0, (0, (0, (0, (false, 0)))))).2).2).2).2).1) == w645.2.2.2.2.2.2.2.2.2.2.2.2.2.2.2.2.2.2.2.2.2.2.2.2.2.2.2.2.2.1) && ((((((((r654_0.getD 1 (0, (0, (0, (0, (false, 0)))))).2).2).2).2).2) : Int) == ((((((r654_0.getD 0 (0, (0, (0, (0, (false, 0)))))).2).2).2).2).2))))))) = false] (by kernel_rfl) ⟨g663_0, b663_5, g663_1, b663_12, trivial⟩
                · have h := Option.some.inj h
                  subst h
                  exact At.fin hm ht ⟨[(5, .b false)], [], [], [6], []⟩ [(0 : Int) ≤ 0 ∧ 0 < (((r654_0).length : Nat) : Int), (((((r654_0.getD 0 (0, (0, (0, (0, (false, 0)))))).1) : Int) == w645.2.2.2.2.2.2.2.2.2.2.2.2.2.2.2.2.2.2.2.2.2.2.2.2.2.1) && ((((((r654_0.getD 0 (0, (0, (0, (0, (false, 0)))))).2).1) : Int) == w645.2.2.2.2.2.2.2.2.2.2.2.2.2.2.2.2.2.2.2.2.2.2.2.2.2.2.1) && (((((((r654_0.getD 0 (0, (0, (0, (0, (false, 0)))))).2).2).1) : Int) == w645.2.2.2.2.2.2.2.2.2.2.2.2.2.2.2.2.2.2.2.2.2.2.2.2.2.2.2.1) && ((((((((r654_0.getD 0 (0, (0, (0, (0, (false, 0)))))).2).2).2).1) : Int) == w645.2.2.2.2.2.2.2.2.2.2.2.2.2.2.2.2.2.2.2.2.2.2.2.2.2.2.2.2.1) && ((((((((r654_0.getD 0 (0, (0, (0, (0, (false, 0)))))).2).2).2).2).1) == w645.2.2.2.2.2.2.2.2.2.2.2.2.2.2.2.2.2.2.2.2.2.2.2.2.2.2.2.2.2.1) && ((((((((r654_0.getD 0 (0, (0, (0, (0, (false, 0)))))).2).2).2).2).2) : Int) == ((((((r654_0.getD 0 (0, (0, (0, (0, (false, 0)))))).2).2).2).2).2))))))) = false] (by kernel_rfl) ⟨g663_0, b663_5, trivial⟩
/-! brougham/broughamref08.Key -/
def f22_broughamref08_Key_in (key : Int) (tag : Int) (answer : Bool) : Inn := ⟨[.c (.d (.int .u64 key)), .c (.d (.int .u64 tag)), .c (.d (.bool answer))], [], [], 0⟩
def f22_broughamref08_Key_out (r : List Int) : Out := ⟨.one (.c (.own 0 (.int .u8) r)), [(0, ⟨5, 0⟩)], [], 1⟩
def f22_broughamref08_Key (n : Nat) (key : Int) (tag : Int) (answer : Bool) : Option (List Int) :=
  (f75_broughamref02_Put n key 8).bind fun r682_0 =>
  if answer = true then
    (f75_broughamref02_Put_v2 n r682_0 tag 8).bind fun r684_0 =>
    some r684_0
  else
    some r682_0
theorem f22_broughamref08_Key_ok (n : Nat) (key : Int) (tag : Int) (answer : Bool) (r : List Int) (h : f22_broughamref08_Key n key tag answer = some r) : FnOK Go.Proofs.Try.prog 22 (f22_broughamref08_Key_in key tag answer) (f22_broughamref08_Key_out r) := by
  unfold f22_broughamref08_Key at h
  refine At.fn (r := 0) Go.Proofs.Try.func22 rfl (by kernel_rfl) rfl rfl (by kernel_rfl) ?_
  show At Go.Proofs.Try.prog Go.Proofs.Try.f22 0 0 ⟨[(0, .one (.c (.d (.int .u64 key)))), (1, .one (.c (.d (.int .u64 tag)))), (2, .one (.c (.d (.bool answer))))], [], [], 0⟩ _
  refine At.step hm ht ⟨[], [], [], [0, 1, 2], []⟩ 1 ⟨[(0, .one (.c (.d (.int .u64 key)))), (1, .one (.c (.d (.int .u64 tag)))), (2, .one (.c (.d (.bool answer))))], [], [], 0⟩ [] (by kernel_rfl) trivial ?_
  obtain ⟨r682_0, cr682_0, h⟩ := bindS h
  refine At.step hm ht ⟨[(1, .call [] [] (f75_broughamref02_Put_out r682_0))], [], [], [1, 2, 7], [1]⟩ 2 ⟨[(1, .one (.c (.d (.int .u64 tag)))), (2, .one (.c (.d (.bool answer)))), (7, .one (.c (.own 0 (.int .u8) r682_0)))], [(0, some ⟨5, 0⟩)], [], 1⟩ [FnOK Go.Proofs.Try.prog 75 (f75_broughamref02_Put_in key 8) (f75_broughamref02_Put_out r682_0)] (by kernel_rfl) ⟨(f75_broughamref02_Put_ok n key 8 r682_0 cr682_0), trivial⟩ ?_
  rcases iteS h with ⟨b683_e0, h⟩ | ⟨b683_e0, h⟩
  · refine At.step hm ht ⟨[], [true], [], [1, 7], [0]⟩ 3 ⟨[(1, .one (.c (.d (.int .u64 tag)))), (7, .one (.c (.own 0 (.int .u8) r682_0)))], [(0, some ⟨5, 0⟩)], [], 1⟩ [answer = true] (by kernel_rfl) ⟨b683_e0, trivial⟩ ?_
    obtain ⟨r684_0, cr684_0, h⟩ := bindS h
    refine At.step hm ht ⟨[(2, .call [0] [] (f75_broughamref02_Put_v2_out r684_0))], [], [], [7], [4]⟩ 4 ⟨[(7, .one (.c (.own 0 (.int .u8) r684_0)))], [(0, some ⟨5, 0⟩)], [], 1⟩ [FnOK Go.Proofs.Try.prog 75 (f75_broughamref02_Put_v2_in r682_0 tag 8) (f75_broughamref02_Put_v2_out r684_0)] (by kernel_rfl) ⟨(f75_broughamref02_Put_v2_ok n r682_0 tag 8 r684_0 cr684_0), trivial⟩ ?_
    have h := Option.some.inj h
    subst h
    exact At.fin hm ht ⟨[], [], [], [6], [0]⟩ [] (by kernel_rfl) trivial
  · refine At.step hm ht ⟨[], [false], [], [7], [0]⟩ 4 ⟨[(7, .one (.c (.own 0 (.int .u8) r682_0)))], [(0, some ⟨5, 0⟩)], [], 1⟩ [answer = false] (by kernel_rfl) ⟨b683_e0, trivial⟩ ?_
    have h := Option.some.inj h
    subst h
    exact At.fin hm ht ⟨[], [], [], [6], [0]⟩ [] (by kernel_rfl) trivial
/-! brougham/broughamref10.Sealed -/
def f68_broughamref10_Sealed_in (k_0 : Int) (k_1 : Int) (s_0 : Int) (s_1 : Int) (s_2 : Int) (s_3 : Int) (s_4 : Int) (s_5 : List (Int × List Int)) (s_6 : List Int) (kind : Int) (body : List Int) : Inn := ⟨[.agg [.d (.int .u64 k_0), .d (.int .u64 k_1)], .agg [.d (.int .u16 s_0), .d (.int .u16 s_1), .d (.int .u32 s_2), .d (.int .u32 s_3), .d (.int .u8 s_4), .d (.sl (.pair (.int .u8) (.slice (.int .u8))) s_5), .d (.sl (.int .u8) s_6)], .c (.d (.int .u8 kind)), .c (.d (.sl (.int .u8) body))], [], [], 0⟩
def f68_broughamref10_Sealed_out (r : List Int) : Out := ⟨.one (.c (.own 0 (.int .u8) r)), [(0, ⟨5, 0⟩)], [], 1⟩
def f68_broughamref10_Sealed (n : Nat) (k_0 : Int) (k_1 : Int) (s_0 : Int) (s_1 : Int) (s_2 : Int) (s_3 : Int) (s_4 : Int) (s_5 : List (Int × List Int)) (s_6 : List Int) (kind : Int) (body : List Int) : Option (List Int) :=
  if cutOk body.length none (some (IntKind.wrap .i64 (((body.length : Nat) : Int) - 8))) none then
  if ([] : List Int).length + (body.take (IntKind.wrap .i64 (((body.length : Nat) : Int) - 8)).toNat).length ≤ maxLen ∧ (([] : List Int).length + (body.take (IntKind.wrap .i64 (((body.length : Nat) : Int) - 8)).toNat).length) * 1 ≤ 140737488355328 then
  (f66_broughamref10_Tag n k_0 k_1 s_0 s_1 s_2 s_3 s_4 s_5 s_6 kind body).bind fun r688_2 =>
  (f75_broughamref02_Put_v2 n ([] ++ (body.take (IntKind.wrap .i64 (((body.length : Nat) : Int) - 8)).toNat)) r688_2 8).bind fun r688_3 =>
  some r688_3
  else none
  else none
theorem f68_broughamref10_Sealed_ok (n : Nat) (k_0 : Int) (k_1 : Int) (s_0 : Int) (s_1 : Int) (s_2 : Int) (s_3 : Int) (s_4 : Int) (s_5 : List (Int × List Int)) (s_6 : List Int) (kind : Int) (body : List Int) (r : List Int) (h : f68_broughamref10_Sealed n k_0 k_1 s_0 s_1 s_2 s_3 s_4 s_5 s_6 kind body = some r) : FnOK Go.Proofs.Try.prog 68 (f68_broughamref10_Sealed_in k_0 k_1 s_0 s_1 s_2 s_3 s_4 s_5 s_6 kind body) (f68_broughamref10_Sealed_out r) := by
  unfold f68_broughamref10_Sealed at h
  refine At.fn (r := 0) Go.Proofs.Try.func68 rfl (by kernel_rfl) rfl rfl (by kernel_rfl) ?_
  show At Go.Proofs.Try.prog Go.Proofs.Try.f68 0 0 ⟨[(0, .one (.agg [.d (.int .u64 k_0), .d (.int .u64 k_1)])), (1, .one (.agg [.d (.int .u16 s_0), .d (.int .u16 s_1), .d (.int .u32 s_2), .d (.int .u32 s_3), .d (.int .u8 s_4), .d (.sl (.pair (.int .u8) (.slice (.int .u8))) s_5), .d (.sl (.int .u8) s_6)])), (2, .one (.c (.d (.int .u8 kind)))), (3, .one (.c (.d (.sl (.int .u8) body))))], [], [], 0⟩ _
  refine At.step hm ht ⟨[], [], [], [2, 3, 4, 5], [0, 1]⟩ 1 ⟨[(2, .one (.c (.d (.int .u8 kind)))), (3, .one (.c (.d (.sl (.int .u8) body)))), (4, .one (.c (.ptr 0 0))), (5, .one (.c (.ptr 1 0)))], [], [(0, [.d (.int .u64 k_0), .d (.int .u64 k_1)]), (1, [.d (.int .u16 s_0), .d (.int .u16 s_1), .d (.int .u32 s_2), .d (.int .u32 s_3), .d (.int .u8 s_4), .d (.sl (.pair (.int .u8) (.slice (.int .u8))) s_5), .d (.sl (.int .u8) s_6)])], 2⟩ [] (by kernel_rfl) trivial ?_
  obtain ⟨g688_0, h⟩ := ifS h
  obtain ⟨g688_1, h⟩ := ifS h
  obtain ⟨r688_2, cr688_2, h⟩ := bindS h
  obtain ⟨r688_3, cr688_3, h⟩ := bindS h
  have h := Option.some.inj h
  subst h
  exact At.fin hm ht ⟨[(11, .call [] [] (f66_broughamref10_Tag_out r688_2)), (12, .call [8] [] (f75_broughamref02_Put_v2_out r688_3))], [], [], [8], [14]⟩ [cutOk body.length none (some (IntKind.wrap .i64 (((body.length : Nat) : Int) - 8))) none, ([] : List Int).length + (body.take (IntKind.wrap .i64 (((body.length : Nat) : Int) - 8)).toNat).length ≤ maxLen ∧ (([] : List Int).length + (body.take (IntKind.wrap .i64 (((body.length : Nat) : Int) - 8)).toNat).length) * 1 ≤ 140737488355328, FnOK Go.Proofs.Try.prog 66 (f66_broughamref10_Tag_in k_0 k_1 s_0 s_1 s_2 s_3 s_4 s_5 s_6 kind body) (f66_broughamref10_Tag_out r688_2), FnOK Go.Proofs.Try.prog 75 (f75_broughamref02_Put_v2_in ([] ++ (body.take (IntKind.wrap .i64 (((body.length : Nat) : Int) - 8)).toNat)) r688_2 8) (f75_broughamref02_Put_v2_out r688_3)] (by kernel_rfl) ⟨g688_0, g688_1, (f66_broughamref10_Tag_ok n k_0 k_1 s_0 s_1 s_2 s_3 s_4 s_5 s_6 kind body r688_2 cr688_2), (f75_broughamref02_Put_v2_ok n ([] ++ (body.take (IntKind.wrap .i64 (((body.length : Nat) : Int) - 8)).toNat)) r688_2 8 r688_3 cr688_3), trivial⟩
/-! brougham/broughamref08.bit -/
def f79_broughamref08_bit_in (is_ : Bool) : Inn := ⟨[.c (.d (.bool is_))], [], [], 0⟩
def f79_broughamref08_bit_out (r : Int) : Out := ⟨.one (.c (.d (.int .u64 r))), [], [], 0⟩
def f79_broughamref08_bit (is_ : Bool) : Option (Int) :=
  if is_ = true then
    some 1
  else
    some 0
theorem f79_broughamref08_bit_ok (is_ : Bool) (r : Int) (h : f79_broughamref08_bit is_ = some r) : FnOK Go.Proofs.Try.prog 79 (f79_broughamref08_bit_in is_) (f79_broughamref08_bit_out r) := by
  unfold f79_broughamref08_bit at h
  refine At.fn (r := 0) Go.Proofs.Try.func79 rfl (by kernel_rfl) rfl rfl (by kernel_rfl) ?_
  show At Go.Proofs.Try.prog Go.Proofs.Try.f79 0 0 ⟨[(0, .one (.c (.d (.bool is_))))], [], [], 0⟩ _
  refine At.step hm ht ⟨[], [], [], [0], []⟩ 1 ⟨[(0, .one (.c (.d (.bool is_))))], [], [], 0⟩ [] (by kernel_rfl) trivial ?_
  rcases iteS h with ⟨b695_e0, h⟩ | ⟨b695_e0, h⟩
  · refine At.step hm ht ⟨[], [true], [], [], []⟩ 2 ⟨[], [], [], 0⟩ [is_ = true] (by kernel_rfl) ⟨b695_e0, trivial⟩ ?_
    have h := Option.some.inj h
    subst h
    exact At.fin hm ht ⟨[], [], [], [2], []⟩ [] (by kernel_rfl) trivial
  · refine At.step hm ht ⟨[], [false], [], [], []⟩ 3 ⟨[], [], [], 0⟩ [is_ = false] (by kernel_rfl) ⟨b695_e0, trivial⟩ ?_
    have h := Option.some.inj h
    subst h
    exact At.fin hm ht ⟨[], [], [], [2], []⟩ [] (by kernel_rfl) trivial
/-! brougham/broughamref08.Join -/
def f24_broughamref08_Join_in (j_0 : Int) (j_1 : Int) (j_2 : Int) (j_3 : Bool) (j_4 : Bool) (j_5 : Int) : Inn := ⟨[.agg [.d (.int .u32 j_0), .d (.int .u32 j_1), .d (.int .u8 j_2), .d (.bool j_3), .d (.bool j_4), .d (.int .u64 j_5)]], [], [], 0⟩
def f24_broughamref08_Join_out (r : List Int) : Out := ⟨.one (.c (.own 0 (.int .u8) r)), [(0, ⟨5, 0⟩)], [], 1⟩
def f24_broughamref08_Join (n : Nat) (j_0 : Int) (j_1 : Int) (j_2 : Int) (j_3 : Bool) (j_4 : Bool) (j_5 : Int) : Option (List Int) :=
  (f75_broughamref02_Put n (IntKind.wrap .u64 j_0) 4).bind fun r692_0 =>
  (f75_broughamref02_Put_v2 n r692_0 (IntKind.wrap .u64 j_1) 4).bind fun r692_1 =>
  if r692_1.length + [j_2].length ≤ maxLen ∧ (r692_1.length + [j_2].length) * 1 ≤ 140737488355328 then
  (f79_broughamref08_bit j_3).bind fun r693_1 =>
  (f75_broughamref02_Put_v2 n (r692_1 ++ [j_2]) r693_1 1).bind fun r693_2 =>
  if j_4 = true then
    (f75_broughamref02_Put_v2 n r693_2 j_5 8).bind fun r699_0 =>
    some r699_0
  else
    some r693_2
  else none
theorem f24_broughamref08_Join_ok (n : Nat) (j_0 : Int) (j_1 : Int) (j_2 : Int) (j_3 : Bool) (j_4 : Bool) (j_5 : Int) (r : List Int) (h : f24_broughamref08_Join n j_0 j_1 j_2 j_3 j_4 j_5 = some r) : FnOK Go.Proofs.Try.prog 24 (f24_broughamref08_Join_in j_0 j_1 j_2 j_3 j_4 j_5) (f24_broughamref08_Join_out r) := by
  unfold f24_broughamref08_Join at h
  refine At.fn (r := 0) Go.Proofs.Try.func24 rfl (by kernel_rfl) rfl rfl (by kernel_rfl) ?_
  show At Go.Proofs.Try.prog Go.Proofs.Try.f24 0 0 ⟨[(0, .one (.agg [.d (.int .u32 j_0), .d (.int .u32 j_1), .d (.int .u8 j_2), .d (.bool j_3), .d (.bool j_4), .d (.int .u64 j_5)]))], [], [], 0⟩ _
  refine At.step hm ht ⟨[], [], [], [1], [0]⟩ 1 ⟨[(1, .one (.c (.ptr 0 0)))], [], [(0, [.d (.int .u32 j_0), .d (.int .u32 j_1), .d (.int .u8 j_2), .d (.bool j_3), .d (.bool j_4), .d (.int .u64 j_5)])], 1⟩ [] (by kernel_rfl) trivial ?_
  obtain ⟨r692_0, cr692_0, h⟩ := bindS h
  obtain ⟨r692_1, cr692_1, h⟩ := bindS h
  refine At.step hm ht ⟨[(3, .call [] [] (f75_broughamref02_Put_out r692_0)), (7, .call [4] [] (f75_broughamref02_Put_v2_out r692_1))], [], [], [1, 3], [0, 9]⟩ 2 ⟨[(1, .one (.c (.ptr 0 0))), (3, .one (.c (.own 1 (.int .u8) r692_1)))], [(1, some ⟨5, 0⟩)], [(0, [.d (.int .u32 j_0), .d (.int .u32 j_1), .d (.int .u8 j_2), .d (.bool j_3), .d (.bool j_4), .d (.int .u64 j_5)])], 2⟩ [FnOK Go.Proofs.Try.prog 75 (f75_broughamref02_Put_in (IntKind.wrap .u64 j_0) 4) (f75_broughamref02_Put_out r692_0), FnOK Go.Proofs.Try.prog 75 (f75_broughamref02_Put_v2_in r692_0 (IntKind.wrap .u64 j_1) 4) (f75_broughamref02_Put_v2_out r692_1)] (by kernel_rfl) ⟨(f75_broughamref02_Put_ok n (IntKind.wrap .u64 j_0) 4 r692_0 cr692_0), (f75_broughamref02_Put_v2_ok n r692_0 (IntKind.wrap .u64 j_1) 4 r692_1 cr692_1), trivial⟩ ?_
  obtain ⟨g693_0, h⟩ := ifS h
  obtain ⟨r693_1, cr693_1, h⟩ := bindS h
  obtain ⟨r693_2, cr693_2, h⟩ := bindS h
  refine At.step hm ht ⟨[(7, .call [] [] (f79_broughamref08_bit_out r693_1)), (8, .call [6] [] (f75_broughamref02_Put_v2_out r693_2))], [], [], [1, 3], [0, 10]⟩ 3 ⟨[(1, .one (.c (.ptr 0 0))), (3, .one (.c (.own 1 (.int .u8) r693_2)))], [(1, some ⟨5, 0⟩)], [(0, [.d (.int .u32 j_0), .d (.int .u32 j_1), .d (.int .u8 j_2), .d (.bool j_3), .d (.bool j_4), .d (.int .u64 j_5)])], 2⟩ [r692_1.length + [j_2].length ≤ maxLen ∧ (r692_1.length + [j_2].length) * 1 ≤ 140737488355328, FnOK Go.Proofs.Try.prog 79 (f79_broughamref08_bit_in j_3) (f79_broughamref08_bit_out r693_1), FnOK Go.Proofs.Try.prog 75 (f75_broughamref02_Put_v2_in (r692_1 ++ [j_2]) r693_1 1) (f75_broughamref02_Put_v2_out r693_2)] (by kernel_rfl) ⟨g693_0, (f79_broughamref08_bit_ok j_3 r693_1 cr693_1), (f75_broughamref02_Put_v2_ok n (r692_1 ++ [j_2]) r693_1 1 r693_2 cr693_2), trivial⟩ ?_
  rcases iteS h with ⟨b698_e0, h⟩ | ⟨b698_e0, h⟩
  · refine At.step hm ht ⟨[], [true], [], [1, 3], [0, 1]⟩ 4 ⟨[(1, .one (.c (.ptr 0 0))), (3, .one (.c (.own 1 (.int .u8) r693_2)))], [(1, some ⟨5, 0⟩)], [(0, [.d (.int .u32 j_0), .d (.int .u32 j_1), .d (.int .u8 j_2), .d (.bool j_3), .d (.bool j_4), .d (.int .u64 j_5)])], 2⟩ [j_4 = true] (by kernel_rfl) ⟨b698_e0, trivial⟩ ?_
    obtain ⟨r699_0, cr699_0, h⟩ := bindS h
    refine At.step hm ht ⟨[(3, .call [1] [] (f75_broughamref02_Put_v2_out r699_0))], [], [], [3], [6]⟩ 5 ⟨[(3, .one (.c (.own 0 (.int .u8) r699_0)))], [(0, some ⟨5, 0⟩)], [], 1⟩ [FnOK Go.Proofs.Try.prog 75 (f75_broughamref02_Put_v2_in r693_2 j_5 8) (f75_broughamref02_Put_v2_out r699_0)] (by kernel_rfl) ⟨(f75_broughamref02_Put_v2_ok n r693_2 j_5 8 r699_0 cr699_0), trivial⟩ ?_
    have h := Option.some.inj h
    subst h
    exact At.fin hm ht ⟨[], [], [], [2], [0]⟩ [] (by kernel_rfl) trivial
  · refine At.step hm ht ⟨[], [false], [], [3], [1]⟩ 5 ⟨[(3, .one (.c (.own 0 (.int .u8) r693_2)))], [(0, some ⟨5, 0⟩)], [], 1⟩ [j_4 = false] (by kernel_rfl) ⟨b698_e0, trivial⟩ ?_
    have h := Option.some.inj h
    subst h
    exact At.fin hm ht ⟨[], [], [], [2], [0]⟩ [] (by kernel_rfl) trivial
/-! brougham/broughamref08.Data -/
def f27_broughamref08_Data_in (d_0 : Bool) (d_1 : Bool) (d_2 : Int) (d_3 : Int) (d_4 : Int) (d_5 : Int) : Inn := ⟨[.agg [.d (.bool d_0), .d (.bool d_1), .d (.int .u64 d_2), .d (.int .u64 d_3), .d (.int .u32 d_4), .d (.int .u64 d_5)]], [], [], 0⟩
def f27_broughamref08_Data_out (r : List Int) : Out := ⟨.one (.c (.own 0 (.int .u8) r)), [(0, ⟨5, 0⟩)], [], 1⟩
def f27_broughamref08_Data (n : Nat) (d_0 : Bool) (d_1 : Bool) (d_2 : Int) (d_3 : Int) (d_4 : Int) (d_5 : Int) : Option (List Int) :=
  (f79_broughamref08_bit d_0).bind fun r705_0 =>
  (f79_broughamref08_bit d_1).bind fun r705_1 =>
  (f75_broughamref02_Put n (IntKind.wrap .u64 (r705_0 + (IntKind.wrap .u64 (2 * r705_1)))) 1).bind fun r705_2 =>
  (f75_broughamref02_Put_v2 n r705_2 d_2 8).bind fun r706_0 =>
  (f75_broughamref02_Put_v2 n r706_0 d_3 8).bind fun r706_1 =>
  (f75_broughamref02_Put_v2 n r706_1 (IntKind.wrap .u64 d_4) 4).bind fun r707_0 =>
  (f75_broughamref02_Put_v2 n r707_0 d_5 8).bind fun r707_1 =>
  some r707_1
theorem f27_broughamref08_Data_ok (n : Nat) (d_0 : Bool) (d_1 : Bool) (d_2 : Int) (d_3 : Int) (d_4 : Int) (d_5 : Int) (r : List Int) (h : f27_broughamref08_Data n d_0 d_1 d_2 d_3 d_4 d_5 = some r) : FnOK Go.Proofs.Try.prog 27 (f27_broughamref08_Data_in d_0 d_1 d_2 d_3 d_4 d_5) (f27_broughamref08_Data_out r) := by
  unfold f27_broughamref08_Data at h
  refine At.fn (r := 0) Go.Proofs.Try.func27 rfl (by kernel_rfl) rfl rfl (by kernel_rfl) ?_
  show At Go.Proofs.Try.prog Go.Proofs.Try.f27 0 0 ⟨[(0, .one (.agg [.d (.bool d_0), .d (.bool d_1), .d (.int .u64 d_2), .d (.int .u64 d_3), .d (.int .u32 d_4), .d (.int .u64 d_5)]))], [], [], 0⟩ _
  refine At.step hm ht ⟨[], [], [], [1], [0]⟩ 1 ⟨[(1, .one (.c (.ptr 0 0)))], [], [(0, [.d (.bool d_0), .d (.bool d_1), .d (.int .u64 d_2), .d (.int .u64 d_3), .d (.int .u32 d_4), .d (.int .u64 d_5)])], 1⟩ [] (by kernel_rfl) trivial ?_
  obtain ⟨r705_0, cr705_0, h⟩ := bindS h
  obtain ⟨r705_1, cr705_1, h⟩ := bindS h
  obtain ⟨r705_2, cr705_2, h⟩ := bindS h
  refine At.step hm ht ⟨[(2, .call [] [] (f79_broughamref08_bit_out r705_0)), (5, .call [] [] (f79_broughamref08_bit_out r705_1)), (8, .call [] [] (f75_broughamref02_Put_out r705_2))], [], [], [1, 3], [0, 7]⟩ 2 ⟨[(1, .one (.c (.ptr 0 0))), (3, .one (.c (.own 1 (.int .u8) r705_2)))], [(1, some ⟨5, 0⟩)], [(0, [.d (.bool d_0), .d (.bool d_1), .d (.int .u64 d_2), .d (.int .u64 d_3), .d (.int .u32 d_4), .d (.int .u64 d_5)])], 2⟩ [FnOK Go.Proofs.Try.prog 79 (f79_broughamref08_bit_in d_0) (f79_broughamref08_bit_out r705_0), FnOK Go.Proofs.Try.prog 79 (f79_broughamref08_bit_in d_1) (f79_broughamref08_bit_out r705_1), FnOK Go.Proofs.Try.prog 75 (f75_broughamref02_Put_in (IntKind.wrap .u64 (r705_0 + (IntKind.wrap .u64 (2 * r705_1)))) 1) (f75_broughamref02_Put_out r705_2)] (by kernel_rfl) ⟨(f79_broughamref08_bit_ok d_0 r705_0 cr705_0), (f79_broughamref08_bit_ok d_1 r705_1 cr705_1), (f75_broughamref02_Put_ok n (IntKind.wrap .u64 (r705_0 + (IntKind.wrap .u64 (2 * r705_1)))) 1 r705_2 cr705_2), trivial⟩ ?_
  obtain ⟨r706_0, cr706_0, h⟩ := bindS h
  obtain ⟨r706_1, cr706_1, h⟩ := bindS h
  refine At.step hm ht ⟨[(3, .call [1] [] (f75_broughamref02_Put_v2_out r706_0)), (6, .call [6] [] (f75_broughamref02_Put_v2_out r706_1))], [], [], [1, 3], [0, 10]⟩ 3 ⟨[(1, .one (.c (.ptr 0 0))), (3, .one (.c (.own 1 (.int .u8) r706_1)))], [(1, some ⟨5, 0⟩)], [(0, [.d (.bool d_0), .d (.bool d_1), .d (.int .u64 d_2), .d (.int .u64 d_3), .d (.int .u32 d_4), .d (.int .u64 d_5)])], 2⟩ [FnOK Go.Proofs.Try.prog 75 (f75_broughamref02_Put_v2_in r705_2 d_2 8) (f75_broughamref02_Put_v2_out r706_0), FnOK Go.Proofs.Try.prog 75 (f75_broughamref02_Put_v2_in r706_0 d_3 8) (f75_broughamref02_Put_v2_out r706_1)] (by kernel_rfl) ⟨(f75_broughamref02_Put_v2_ok n r705_2 d_2 8 r706_0 cr706_0), (f75_broughamref02_Put_v2_ok n r706_0 d_3 8 r706_1 cr706_1), trivial⟩ ?_
  obtain ⟨r707_0, cr707_0, h⟩ := bindS h
  obtain ⟨r707_1, cr707_1, h⟩ := bindS h
  have h := Option.some.inj h
  subst h
  exact At.fin hm ht ⟨[(4, .call [1] [] (f75_broughamref02_Put_v2_out r707_0)), (7, .call [7] [] (f75_broughamref02_Put_v2_out r707_1))], [], [], [2], [11]⟩ [FnOK Go.Proofs.Try.prog 75 (f75_broughamref02_Put_v2_in r706_1 (IntKind.wrap .u64 d_4) 4) (f75_broughamref02_Put_v2_out r707_0), FnOK Go.Proofs.Try.prog 75 (f75_broughamref02_Put_v2_in r707_0 d_5 8) (f75_broughamref02_Put_v2_out r707_1)] (by kernel_rfl) ⟨(f75_broughamref02_Put_v2_ok n r706_1 (IntKind.wrap .u64 d_4) 4 r707_0 cr707_0), (f75_broughamref02_Put_v2_ok n r707_0 d_5 8 r707_1 cr707_1), trivial⟩
/-! brougham/broughamref08.Word -/
def f30_broughamref08_Word_in (w__0 : Int) (w__1 : Int) (w__2 : Int) (w__3 : Bool) (w__4 : Int) : Inn := ⟨[.agg [.d (.int .u32 w__0), .d (.int .u8 w__1), .d (.int .u8 w__2), .d (.bool w__3), .d (.int .u64 w__4)]], [], [], 0⟩
def f30_broughamref08_Word_out (r : List Int) : Out := ⟨.one (.c (.own 0 (.int .u8) r)), [(0, ⟨5, 0⟩)], [], 1⟩
def f30_broughamref08_Word (n : Nat) (w__0 : Int) (w__1 : Int) (w__2 : Int) (w__3 : Bool) (w__4 : Int) : Option (List Int) :=
  (f75_broughamref02_Put n (IntKind.wrap .u64 w__0) 4).bind fun r711_0 =>
  if r711_0.length + [w__1, w__2].length ≤ maxLen ∧ (r711_0.length + [w__1, w__2].length) * 1 ≤ 140737488355328 then
  (f79_broughamref08_bit w__3).bind fun r712_0 =>
  (f75_broughamref02_Put_v2 n (r711_0 ++ [w__1, w__2]) r712_0 1).bind fun r712_1 =>
  (f75_broughamref02_Put_v2 n r712_1 w__4 8).bind fun r712_2 =>
  some r712_2
  else none
theorem f30_broughamref08_Word_ok (n : Nat) (w__0 : Int) (w__1 : Int) (w__2 : Int) (w__3 : Bool) (w__4 : Int) (r : List Int) (h : f30_broughamref08_Word n w__0 w__1 w__2 w__3 w__4 = some r) : FnOK Go.Proofs.Try.prog 30 (f30_broughamref08_Word_in w__0 w__1 w__2 w__3 w__4) (f30_broughamref08_Word_out r) := by
  unfold f30_broughamref08_Word at h
  refine At.fn (r := 0) Go.Proofs.Try.func30 rfl (by kernel_rfl) rfl rfl (by kernel_rfl) ?_
  show At Go.Proofs.Try.prog Go.Proofs.Try.f30 0 0 ⟨[(0, .one (.agg [.d (.int .u32 w__0), .d (.int .u8 w__1), .d (.int .u8 w__2), .d (.bool w__3), .d (.int .u64 w__4)]))], [], [], 0⟩ _
  refine At.step hm ht ⟨[], [], [], [1], [0]⟩ 1 ⟨[(1, .one (.c (.ptr 0 0)))], [], [(0, [.d (.int .u32 w__0), .d (.int .u8 w__1), .d (.int .u8 w__2), .d (.bool w__3), .d (.int .u64 w__4)])], 1⟩ [] (by kernel_rfl) trivial ?_
  obtain ⟨r711_0, cr711_0, h⟩ := bindS h
  obtain ⟨g711_1, h⟩ := ifS h
  refine At.step hm ht ⟨[(3, .call [] [] (f75_broughamref02_Put_out r711_0))], [], [], [1, 3], [0, 10]⟩ 2 ⟨[(1, .one (.c (.ptr 0 0))), (3, .one (.c (.own 1 (.int .u8) (r711_0 ++ [w__1, w__2]))))], [(1, some ⟨5, 0⟩)], [(0, [.d (.int .u32 w__0), .d (.int .u8 w__1), .d (.int .u8 w__2), .d (.bool w__3), .d (.int .u64 w__4)])], 2⟩ [FnOK Go.Proofs.Try.prog 75 (f75_broughamref02_Put_in (IntKind.wrap .u64 w__0) 4) (f75_broughamref02_Put_out r711_0), r711_0.length + [w__1, w__2].length ≤ maxLen ∧ (r711_0.length + [w__1, w__2].length) * 1 ≤ 140737488355328] (by kernel_rfl) ⟨(f75_broughamref02_Put_ok n (IntKind.wrap .u64 w__0) 4 r711_0 cr711_0), g711_1, trivial⟩ ?_
  obtain ⟨r712_0, cr712_0, h⟩ := bindS h
  obtain ⟨r712_1, cr712_1, h⟩ := bindS h
  obtain ⟨r712_2, cr712_2, h⟩ := bindS h
  have h := Option.some.inj h
  subst h
  exact At.fin hm ht ⟨[(3, .call [] [] (f79_broughamref08_bit_out r712_0)), (4, .call [1] [] (f75_broughamref02_Put_v2_out r712_1)), (7, .call [6] [] (f75_broughamref02_Put_v2_out r712_2))], [], [], [2], [10]⟩ [FnOK Go.Proofs.Try.prog 79 (f79_broughamref08_bit_in w__3) (f79_broughamref08_bit_out r712_0), FnOK Go.Proofs.Try.prog 75 (f75_broughamref02_Put_v2_in (r711_0 ++ [w__1, w__2]) r712_0 1) (f75_broughamref02_Put_v2_out r712_1), FnOK Go.Proofs.Try.prog 75 (f75_broughamref02_Put_v2_in r712_1 w__4 8) (f75_broughamref02_Put_v2_out r712_2)] (by kernel_rfl) ⟨(f79_broughamref08_bit_ok w__3 r712_0 cr712_0), (f75_broughamref02_Put_v2_ok n (r711_0 ++ [w__1, w__2]) r712_0 1 r712_1 cr712_1), (f75_broughamref02_Put_v2_ok n r712_1 w__4 8 r712_2 cr712_2), trivial⟩
/-! (brougham/opt.Key).Option -/
def f21_opt_Key_Option_in (k_0 : Int) (k_1 : Bool) (k_2 : Int) : Inn := ⟨[.agg [.d (.int .u64 k_0), .d (.bool k_1), .d (.int .u64 k_2)]], [], [], 0⟩
def f21_opt_Key_Option_out (r : Int × List Int) : Out := ⟨.one (.agg [.d (.int .u8 r.1), .own 1 (.int .u8) r.2]), [(1, ⟨5, 0⟩)], [(0, [.d (.int .u8 r.1), .own 1 (.int .u8) r.2])], 2⟩
def f21_opt_Key_Option (n : Nat) (k_0 : Int) (k_1 : Bool) (k_2 : Int) : Option (Int × List Int) :=
  (f74_pack_Q k_0).bind fun r718_0 =>
  (f73_pack_Put n [] [r718_0]).bind fun r718_1 =>
  if k_1 = true then
    (f74_pack_Q k_2).bind fun r720_0 =>
    (f73_pack_Put n r718_1 [r720_0]).bind fun r720_1 =>
    some (1, r720_1)
  else
    some (1, r718_1)
theorem f21_opt_Key_Option_ok (n : Nat) (k_0 : Int) (k_1 : Bool) (k_2 : Int) (r : Int × List Int) (h : f21_opt_Key_Option n k_0 k_1 k_2 = some r) : FnOK Go.Proofs.Try.prog 21 (f21_opt_Key_Option_in k_0 k_1 k_2) (f21_opt_Key_Option_out r) := by
  unfold f21_opt_Key_Option at h
  refine At.fn (r := 0) Go.Proofs.Try.func21 rfl (by kernel_rfl) rfl rfl (by kernel_rfl) ?_
  show At Go.Proofs.Try.prog Go.Proofs.Try.f21 0 0 ⟨[(0, .one (.agg [.d (.int .u64 k_0), .d (.bool k_1), .d (.int .u64 k_2)]))], [], [], 0⟩ _
  refine At.step hm ht ⟨[], [], [], [1, 2], [0, 1]⟩ 1 ⟨[(1, .one (.c (.ptr 0 0))), (2, .one (.c (.ptr 1 0)))], [], [(0, [.d (.int .u64 k_0), .d (.bool k_1), .d (.int .u64 k_2)]), (1, [.d (.int .u8 0), .d (.sl .unit [])])], 2⟩ [] (by kernel_rfl) trivial ?_
  obtain ⟨r718_0, cr718_0, h⟩ := bindS h
  obtain ⟨r718_1, cr718_1, h⟩ := bindS h
  refine At.step hm ht ⟨[(2, .call [] [] (f74_pack_Q_out r718_0)), (4, .call [] [(0, 0, (.int .u8))] (f73_pack_Put_out r718_1))], [], [], [1, 2, 3], [0, 1, 6]⟩ 2 ⟨[(1, .one (.c (.ptr 0 0))), (2, .one (.c (.ptr 1 0))), (3, .one (.c (.own 2 (.int .u8) r718_1)))], [(2, some ⟨5, 0⟩)], [(0, [.d (.int .u64 k_0), .d (.bool k_1), .d (.int .u64 k_2)]), (1, [.d (.int .u8 0), .d (.sl .unit [])])], 3⟩ [FnOK Go.Proofs.Try.prog 74 (f74_pack_Q_in k_0) (f74_pack_Q_out r718_0), FnOK Go.Proofs.Try.prog 73 (f73_pack_Put_in [] [r718_0]) (f73_pack_Put_out r718_1)] (by kernel_rfl) ⟨(f74_pack_Q_ok k_0 r718_0 cr718_0), (f73_pack_Put_ok n [] [r718_0] r718_1 cr718_1), trivial⟩ ?_
  rcases iteS h with ⟨b719_e0, h⟩ | ⟨b719_e0, h⟩
  · refine At.step hm ht ⟨[], [true], [], [1, 2, 3], [0, 1, 2]⟩ 3 ⟨[(1, .one (.c (.ptr 0 0))), (2, .one (.c (.ptr 1 0))), (3, .one (.c (.own 2 (.int .u8) r718_1)))], [(2, some ⟨5, 0⟩)], [(0, [.d (.int .u64 k_0), .d (.bool k_1), .d (.int .u64 k_2)]), (1, [.d (.int .u8 0), .d (.sl .unit [])])], 3⟩ [k_1 = true] (by kernel_rfl) ⟨b719_e0, trivial⟩ ?_
    obtain ⟨r720_0, cr720_0, h⟩ := bindS h
    obtain ⟨r720_1, cr720_1, h⟩ := bindS h
    refine At.step hm ht ⟨[(4, .call [] [] (f74_pack_Q_out r720_0)), (6, .call [] [] (f73_pack_Put_out r720_1))], [], [], [2, 3], [1, 9]⟩ 4 ⟨[(2, .one (.c (.ptr 0 0))), (3, .one (.c (.own 1 (.int .u8) r720_1)))], [(1, some ⟨5, 0⟩)], [(0, [.d (.int .u8 0), .d (.sl .unit [])])], 2⟩ [FnOK Go.Proofs.Try.prog 74 (f74_pack_Q_in k_2) (f74_pack_Q_out r720_0), FnOK Go.Proofs.Try.prog 73 (f73_pack_Put_in r718_1 [r720_0]) (f73_pack_Put_out r720_1)] (by kernel_rfl) ⟨(f74_pack_Q_ok k_2 r720_0 cr720_0), (f73_pack_Put_ok n r718_1 [r720_0] r720_1 cr720_1), trivial⟩ ?_
    have h := Option.some.inj h
    subst h
    exact At.fin hm ht ⟨[], [], [], [2], [0, 1]⟩ [0 + 2 ≤ 2] (by kernel_rfl) ⟨(by decide), trivial⟩
  · refine At.step hm ht ⟨[], [false], [], [2, 3], [1, 2]⟩ 4 ⟨[(2, .one (.c (.ptr 0 0))), (3, .one (.c (.own 1 (.int .u8) r718_1)))], [(1, some ⟨5, 0⟩)], [(0, [.d (.int .u8 0), .d (.sl .unit [])])], 2⟩ [k_1 = false] (by kernel_rfl) ⟨b719_e0, trivial⟩ ?_
    have h := Option.some.inj h
    subst h
    exact At.fin hm ht ⟨[], [], [], [2], [0, 1]⟩ [0 + 2 ≤ 2] (by kernel_rfl) ⟨(by decide), trivial⟩
/-! (*brougham/opt.Tagged).Seal -/
def f72_opt_Tagged_Seal_v3_in (tag : Int) (t_0 : Int) (t_1 : Bool) (t_2 : Int) : Inn := ⟨[.c (.ptr 0 2), .c (.d (.int .u64 tag))], [], [(0, [.d (.int .u64 t_0), .d (.bool t_1), .d (.int .u64 t_2)])], 1⟩
def f72_opt_Tagged_Seal_v3_out (r : Int × Bool × Int) : Out := ⟨.tup [], [], [(0, [.d (.int .u64 r.1), .d (.bool r.2.1), .d (.int .u64 r.2.2)])], 1⟩
def f72_opt_Tagged_Seal_v3 (tag : Int) (t_0 : Int) (t_1 : Bool) (t_2 : Int) : Option (Int × Bool × Int) :=
  some (t_0, t_1, tag)
theorem f72_opt_Tagged_Seal_v3_ok (tag : Int) (t_0 : Int) (t_1 : Bool) (t_2 : Int) (r : Int × Bool × Int) (h : f72_opt_Tagged_Seal_v3 tag t_0 t_1 t_2 = some r) : FnOK Go.Proofs.Try.prog 72 (f72_opt_Tagged_Seal_v3_in tag t_0 t_1 t_2) (f72_opt_Tagged_Seal_v3_out r) := by
  unfold f72_opt_Tagged_Seal_v3 at h
  refine At.fn (r := 0) Go.Proofs.Try.func72 rfl (by kernel_rfl) rfl rfl (by kernel_rfl) ?_
  show At Go.Proofs.Try.prog Go.Proofs.Try.f72 1 0 ⟨[(0, .one (.c (.ptr 0 2))), (1, .one (.c (.d (.int .u64 tag))))], [], [(0, [.d (.int .u64 t_0), .d (.bool t_1), .d (.int .u64 t_2)])], 1⟩ _
  have h := Option.some.inj h
  subst h
  exact At.fin hm ht ⟨[], [], [], [], [0]⟩ [2 + 1 ≤ 3] (by kernel_rfl) ⟨(by decide), trivial⟩
/-! brougham/mac.Key -/
def f70_mac_Key_in (k_0 : Int) (k_1 : Int) (s_0 : Int) (s_1 : Int) (s_2 : Int) (s_3 : Int) (s_4 : Int) (s_5 : List (Int × List Int)) (s_6 : List Int) (x_0 : Int) (x_1 : Bool) (x_2 : Int) : Inn := ⟨[.agg [.d (.int .u64 k_0), .d (.int .u64 k_1)], .agg [.d (.int .u16 s_0), .d (.int .u16 s_1), .d (.int .u32 s_2), .d (.int .u32 s_3), .d (.int .u8 s_4), .d (.sl (.pair (.int .u8) (.slice (.int .u8))) s_5), .d (.sl (.int .u8) s_6)], .agg [.d (.int .u64 x_0), .d (.bool x_1), .d (.int .u64 x_2)]], [], [], 0⟩
def f70_mac_Key_out (r : Int × List Int) : Out := ⟨.one (.agg [.d (.int .u8 r.1), .own 1 (.int .u8) r.2]), [(1, ⟨5, 0⟩)], [(0, [.d (.int .u8 r.1), .own 1 (.int .u8) r.2])], 2⟩
def f70_mac_Key (n : Nat) (k_0 : Int) (k_1 : Int) (s_0 : Int) (s_1 : Int) (s_2 : Int) (s_3 : Int) (s_4 : Int) (s_5 : List (Int × List Int)) (s_6 : List Int) (x_0 : Int) (x_1 : Bool) (x_2 : Int) : Option (Int × List Int) :=
  (f21_opt_Key_Option n x_0 true x_2).bind fun r716_0 =>
  (f65_mac_Tag n k_0 k_1 s_0 s_1 s_2 s_3 s_4 s_5 s_6 r716_0.1 r716_0.2).bind fun r716_1 =>
  (f72_opt_Tagged_Seal_v3 r716_1 x_0 true x_2).bind fun r716_2 =>
  (f21_opt_Key_Option n r716_2.1 r716_2.2.1 r716_2.2.2).bind fun r724_0 =>
  some (r724_0.1, r724_0.2)
theorem f70_mac_Key_ok (n : Nat) (k_0 : Int) (k_1 : Int) (s_0 : Int) (s_1 : Int) (s_2 : Int) (s_3 : Int) (s_4 : Int) (s_5 : List (Int × List Int)) (s_6 : List Int) (x_0 : Int) (x_1 : Bool) (x_2 : Int) (r : Int × List Int) (h : f70_mac_Key n k_0 k_1 s_0 s_1 s_2 s_3 s_4 s_5 s_6 x_0 x_1 x_2 = some r) : FnOK Go.Proofs.Try.prog 70 (f70_mac_Key_in k_0 k_1 s_0 s_1 s_2 s_3 s_4 s_5 s_6 x_0 x_1 x_2) (f70_mac_Key_out r) := by
  unfold f70_mac_Key at h
  refine At.fn (r := 0) Go.Proofs.Try.func70 rfl (by kernel_rfl) rfl rfl (by kernel_rfl) ?_
  show At Go.Proofs.Try.prog Go.Proofs.Try.f70 0 0 ⟨[(0, .one (.agg [.d (.int .u64 k_0), .d (.int .u64 k_1)])), (1, .one (.agg [.d (.int .u16 s_0), .d (.int .u16 s_1), .d (.int .u32 s_2), .d (.int .u32 s_3), .d (.int .u8 s_4), .d (.sl (.pair (.int .u8) (.slice (.int .u8))) s_5), .d (.sl (.int .u8) s_6)])), (2, .one (.agg [.d (.int .u64 x_0), .d (.bool x_1), .d (.int .u64 x_2)]))], [], [], 0⟩ _
  refine At.step hm ht ⟨[], [], [], [3, 4, 5, 6], [0, 1, 2, 3]⟩ 1 ⟨[(3, .one (.c (.ptr 0 0))), (4, .one (.c (.ptr 1 0))), (5, .one (.c (.ptr 2 0))), (6, .one (.c (.ptr 3 0)))], [], [(0, [.d (.int .u64 k_0), .d (.int .u64 k_1)]), (1, [.d (.int .u16 s_0), .d (.int .u16 s_1), .d (.int .u32 s_2), .d (.int .u32 s_3), .d (.int .u8 s_4), .d (.sl (.pair (.int .u8) (.slice (.int .u8))) s_5), .d (.sl (.int .u8) s_6)]), (2, [.d (.int .u64 x_0), .d (.bool x_1), .d (.int .u64 x_2)]), (3, [.d (.int .u8 0), .d (.sl .unit [])])], 4⟩ [] (by kernel_rfl) trivial ?_
  refine At.step hm ht ⟨[], [], [], [3, 4, 5, 6], [0, 1, 2, 3]⟩ 2 ⟨[(3, .one (.c (.ptr 0 0))), (4, .one (.c (.ptr 1 0))), (5, .one (.c (.ptr 2 0))), (6, .one (.c (.ptr 3 0)))], [], [(0, [.d (.int .u64 k_0), .d (.int .u64 k_1)]), (1, [.d (.int .u16 s_0), .d (.int .u16 s_1), .d (.int .u32 s_2), .d (.int .u32 s_3), .d (.int .u8 s_4), .d (.sl (.pair (.int .u8) (.slice (.int .u8))) s_5), .d (.sl (.int .u8) s_6)]), (2, [.d (.int .u64 x_0), .d (.bool true), .d (.int .u64 x_2)]), (3, [.d (.int .u8 0), .d (.sl .unit [])])], 4⟩ [1 + 1 ≤ 3] (by kernel_rfl) ⟨(by decide), trivial⟩ ?_
  obtain ⟨r716_0, cr716_0, h⟩ := bindS h
  obtain ⟨r716_1, cr716_1, h⟩ := bindS h
  obtain ⟨r716_2, cr716_2, h⟩ := bindS h
  refine At.step hm ht ⟨[(4, .call [] [] (f21_opt_Key_Option_out r716_0)), (5, .call [] [] (f65_mac_Tag_out r716_1)), (6, .call [2] [] (f72_opt_Tagged_Seal_v3_out r716_2))], [], [], [5, 6], [2, 3]⟩ 3 ⟨[(5, .one (.c (.ptr 0 0))), (6, .one (.c (.ptr 1 0)))], [], [(0, [.d (.int .u64 r716_2.1), .d (.bool r716_2.2.1), .d (.int .u64 r716_2.2.2)]), (1, [.d (.int .u8 0), .d (.sl .unit [])])], 2⟩ [FnOK Go.Proofs.Try.prog 21 (f21_opt_Key_Option_in x_0 true x_2) (f21_opt_Key_Option_out r716_0), FnOK Go.Proofs.Try.prog 65 (f65_mac_Tag_in k_0 k_1 s_0 s_1 s_2 s_3 s_4 s_5 s_6 r716_0.1 r716_0.2) (f65_mac_Tag_out r716_1), FnOK Go.Proofs.Try.prog 72 (f72_opt_Tagged_Seal_v3_in r716_1 x_0 true x_2) (f72_opt_Tagged_Seal_v3_out r716_2)] (by kernel_rfl) ⟨(f21_opt_Key_Option_ok n x_0 true x_2 r716_0 cr716_0), (f65_mac_Tag_ok n k_0 k_1 s_0 s_1 s_2 s_3 s_4 s_5 s_6 r716_0.1 r716_0.2 r716_1 cr716_1), (f72_opt_Tagged_Seal_v3_ok r716_1 x_0 true x_2 r716_2 cr716_2), trivial⟩ ?_
  obtain ⟨r724_0, cr724_0, h⟩ := bindS h
  have h := Option.some.inj h
  subst h
  exact At.fin hm ht ⟨[(1, .call [] [] (f21_opt_Key_Option_out r724_0))], [], [], [6], [1, 4]⟩ [FnOK Go.Proofs.Try.prog 21 (f21_opt_Key_Option_in r716_2.1 r716_2.2.1 r716_2.2.2) (f21_opt_Key_Option_out r724_0), 0 + 2 ≤ 2] (by kernel_rfl) ⟨(f21_opt_Key_Option_ok n r716_2.1 r716_2.2.1 r716_2.2.2 r724_0 cr724_0), (by decide), trivial⟩
/-! brougham/broughamlaw10.is -/
def f69_broughamlaw10_is_in (o__0 : Int) (o__1 : List Int) (kind : Int) (body : List Int) : Inn := ⟨[.agg [.d (.int .u8 o__0), .d (.sl (.int .u8) o__1)], .c (.d (.int .u8 kind)), .c (.d (.sl (.int .u8) body))], [], [], 0⟩
def f69_broughamlaw10_is_out (r : Bool) : Out := ⟨.one (.c (.d (.bool r))), [], [], 0⟩
def f69_broughamlaw10_is (o__0 : Int) (o__1 : List Int) (kind : Int) (body : List Int) : Option (Bool) :=
  if ((o__0 : Int) == kind) = true then
    some ((strOfNums o__1).toList == (strOfNums body).toList)
  else
    some false
theorem f69_broughamlaw10_is_ok (o__0 : Int) (o__1 : List Int) (kind : Int) (body : List Int) (r : Bool) (h : f69_broughamlaw10_is o__0 o__1 kind body = some r) : FnOK Go.Proofs.Try.prog 69 (f69_broughamlaw10_is_in o__0 o__1 kind body) (f69_broughamlaw10_is_out r) := by
  unfold f69_broughamlaw10_is at h
  refine At.fn (r := 0) Go.Proofs.Try.func69 rfl (by kernel_rfl) rfl rfl (by kernel_rfl) ?_
  show At Go.Proofs.Try.prog Go.Proofs.Try.f69 0 0 ⟨[(0, .one (.agg [.d (.int .u8 o__0), .d (.sl (.int .u8) o__1)])), (1, .one (.c (.d (.int .u8 kind)))), (2, .one (.c (.d (.sl (.int .u8) body))))], [], [], 0⟩ _
  refine At.step hm ht ⟨[], [], [], [1, 2, 3], [0]⟩ 1 ⟨[(1, .one (.c (.d (.int .u8 kind)))), (2, .one (.c (.d (.sl (.int .u8) body)))), (3, .one (.c (.ptr 0 0)))], [], [(0, [.d (.int .u8 o__0), .d (.sl (.int .u8) o__1)])], 1⟩ [] (by kernel_rfl) trivial ?_
  rcases iteS h with ⟨b726_4, h⟩ | ⟨b726_4, h⟩
  · have h := Option.some.inj h
    subst h
    exact At.fin hm ht ⟨[(4, .b true)], [], [], [6], []⟩ [((o__0 : Int) == kind) = true] (by kernel_rfl) ⟨b726_4, trivial⟩
  · have h := Option.some.inj h
    subst h
    exact At.fin hm ht ⟨[(4, .b false)], [], [], [6], []⟩ [((o__0 : Int) == kind) = false] (by kernel_rfl) ⟨b726_4, trivial⟩
/-! (brougham/opt.Join).Option -/
def f23_opt_Join_Option_in (j_0 : Int) (j_1 : Int) (j_2 : Int) (j_3 : Bool) (j_4 : Bool) (j_5 : Int) : Inn := ⟨[.agg [.d (.int .u32 j_0), .d (.int .u32 j_1), .d (.int .u8 j_2), .d (.bool j_3), .d (.bool j_4), .d (.int .u64 j_5)]], [], [], 0⟩
def f23_opt_Join_Option_out (r : Int × List Int) : Out := ⟨.one (.agg [.d (.int .u8 r.1), .own 1 (.int .u8) r.2]), [(1, ⟨5, 0⟩)], [(0, [.d (.int .u8 r.1), .own 1 (.int .u8) r.2])], 2⟩
def f23_opt_Join_Option (n : Nat) (j_0 : Int) (j_1 : Int) (j_2 : Int) (j_3 : Bool) (j_4 : Bool) (j_5 : Int) : Option (Int × List Int) :=
  (f76_pack_W j_0).bind fun r731_0 =>
  (f76_pack_W j_1).bind fun r731_1 =>
  (f77_pack_B j_2).bind fun r731_2 =>
  (f78_pack_Flag j_3).bind fun r731_3 =>
  (f73_pack_Put n [] [r731_0, r731_1, r731_2, r731_3]).bind fun r731_4 =>
  if j_4 = true then
    (f74_pack_Q j_5).bind fun r733_0 =>
    (f73_pack_Put n r731_4 [r733_0]).bind fun r733_1 =>
    some (2, r733_1)
  else
    some (2, r731_4)
theorem f23_opt_Join_Option_ok (n : Nat) (j_0 : Int) (j_1 : Int) (j_2 : Int) (j_3 : Bool) (j_4 : Bool) (j_5 : Int) (r : Int × List Int) (h : f23_opt_Join_Option n j_0 j_1 j_2 j_3 j_4 j_5 = some r) : FnOK Go.Proofs.Try.prog 23 (f23_opt_Join_Option_in j_0 j_1 j_2 j_3 j_4 j_5) (f23_opt_Join_Option_out r) := by
  unfold f23_opt_Join_Option at h
  refine At.fn (r := 0) Go.Proofs.Try.func23 rfl (by kernel_rfl) rfl rfl (by kernel_rfl) ?_
  show At Go.Proofs.Try.prog Go.Proofs.Try.f23 0 0 ⟨[(0, .one (.agg [.d (.int .u32 j_0), .d (.int .u32 j_1), .d (.int .u8 j_2), .d (.bool j_3), .d (.bool j_4), .d (.int .u64 j_5)]))], [], [], 0⟩ _
  refine At.step hm ht ⟨[], [], [], [1, 2], [0, 1]⟩ 1 ⟨[(1, .one (.c (.ptr 0 0))), (2, .one (.c (.ptr 1 0)))], [], [(0, [.d (.int .u32 j_0), .d (.int .u32 j_1), .d (.int .u8 j_2), .d (.bool j_3), .d (.bool j_4), .d (.int .u64 j_5)]), (1, [.d (.int .u8 0), .d (.sl .unit [])])], 2⟩ [] (by kernel_rfl) trivial ?_
  obtain ⟨r731_0, cr731_0, h⟩ := bindS h
  obtain ⟨r731_1, cr731_1, h⟩ := bindS h
  obtain ⟨r731_2, cr731_2, h⟩ := bindS h
  obtain ⟨r731_3, cr731_3, h⟩ := bindS h
  obtain ⟨r731_4, cr731_4, h⟩ := bindS h
  refine At.step hm ht ⟨[(2, .call [] [] (f76_pack_W_out r731_0)), (5, .call [] [] (f76_pack_W_out r731_1)), (8, .call [] [] (f77_pack_B_out r731_2)), (11, .call [] [] (f78_pack_Flag_out r731_3)), (13, .call [] [(0, 0, (.int .u8))] (f73_pack_Put_out r731_4))], [], [], [1, 2, 3], [0, 1, 15]⟩ 2 ⟨[(1, .one (.c (.ptr 0 0))), (2, .one (.c (.ptr 1 0))), (3, .one (.c (.own 2 (.int .u8) r731_4)))], [(2, some ⟨5, 0⟩)], [(0, [.d (.int .u32 j_0), .d (.int .u32 j_1), .d (.int .u8 j_2), .d (.bool j_3), .d (.bool j_4), .d (.int .u64 j_5)]), (1, [.d (.int .u8 0), .d (.sl .unit [])])], 3⟩ [FnOK Go.Proofs.Try.prog 76 (f76_pack_W_in j_0) (f76_pack_W_out r731_0), FnOK Go.Proofs.Try.prog 76 (f76_pack_W_in j_1) (f76_pack_W_out r731_1), FnOK Go.Proofs.Try.prog 77 (f77_pack_B_in j_2) (f77_pack_B_out r731_2), FnOK Go.Proofs.Try.prog 78 (f78_pack_Flag_in j_3) (f78_pack_Flag_out r731_3), FnOK Go.Proofs.Try.prog 73 (f73_pack_Put_in [] [r731_0, r731_1, r731_2, r731_3]) (f73_pack_Put_out r731_4)] (by kernel_rfl) ⟨(f76_pack_W_ok j_0 r731_0 cr731_0), (f76_pack_W_ok j_1 r731_1 cr731_1), (f77_pack_B_ok j_2 r731_2 cr731_2), (f78_pack_Flag_ok j_3 r731_3 cr731_3), (f73_pack_Put_ok n [] [r731_0, r731_1, r731_2, r731_3] r731_4 cr731_4), trivial⟩ ?_
  rcases iteS h with ⟨b732_e0, h⟩ | ⟨b732_e0, h⟩
  · refine At.step hm ht ⟨[], [true], [], [1, 2, 3], [0, 1, 2]⟩ 3 ⟨[(1, .one (.c (.ptr 0 0))), (2, .one (.c (.ptr 1 0))), (3, .one (.c (.own 2 (.int .u8) r731_4)))], [(2, some ⟨5, 0⟩)], [(0, [.d (.int .u32 j_0), .d (.int .u32 j_1), .d (.int .u8 j_2), .d (.bool j_3), .d (.bool j_4), .d (.int .u64 j_5)]), (1, [.d (.int .u8 0), .d (.sl .unit [])])], 3⟩ [j_4 = true] (by kernel_rfl) ⟨b732_e0, trivial⟩ ?_
    obtain ⟨r733_0, cr733_0, h⟩ := bindS h
    obtain ⟨r733_1, cr733_1, h⟩ := bindS h
    refine At.step hm ht ⟨[(4, .call [] [] (f74_pack_Q_out r733_0)), (6, .call [] [] (f73_pack_Put_out r733_1))], [], [], [2, 3], [1, 9]⟩ 4 ⟨[(2, .one (.c (.ptr 0 0))), (3, .one (.c (.own 1 (.int .u8) r733_1)))], [(1, some ⟨5, 0⟩)], [(0, [.d (.int .u8 0), .d (.sl .unit [])])], 2⟩ [FnOK Go.Proofs.Try.prog 74 (f74_pack_Q_in j_5) (f74_pack_Q_out r733_0), FnOK Go.Proofs.Try.prog 73 (f73_pack_Put_in r731_4 [r733_0]) (f73_pack_Put_out r733_1)] (by kernel_rfl) ⟨(f74_pack_Q_ok j_5 r733_0 cr733_0), (f73_pack_Put_ok n r731_4 [r733_0] r733_1 cr733_1), trivial⟩ ?_
    have h := Option.some.inj h
    subst h
    exact At.fin hm ht ⟨[], [], [], [2], [0, 1]⟩ [0 + 2 ≤ 2] (by kernel_rfl) ⟨(by decide), trivial⟩
  · refine At.step hm ht ⟨[], [false], [], [2, 3], [1, 2]⟩ 4 ⟨[(2, .one (.c (.ptr 0 0))), (3, .one (.c (.own 1 (.int .u8) r731_4)))], [(1, some ⟨5, 0⟩)], [(0, [.d (.int .u8 0), .d (.sl .unit [])])], 2⟩ [j_4 = false] (by kernel_rfl) ⟨b732_e0, trivial⟩ ?_
    have h := Option.some.inj h
    subst h
    exact At.fin hm ht ⟨[], [], [], [2], [0, 1]⟩ [0 + 2 ≤ 2] (by kernel_rfl) ⟨(by decide), trivial⟩
/-! (*brougham/opt.Tagged).Seal -/
def f72_opt_Tagged_Seal_v4_in (tag : Int) (t_0 : Int) (t_1 : Int) (t_2 : Int) (t_3 : Bool) (t_4 : Bool) (t_5 : Int) : Inn := ⟨[.c (.ptr 0 5), .c (.d (.int .u64 tag))], [], [(0, [.d (.int .u32 t_0), .d (.int .u32 t_1), .d (.int .u8 t_2), .d (.bool t_3), .d (.bool t_4), .d (.int .u64 t_5)])], 1⟩
def f72_opt_Tagged_Seal_v4_out (r : Int × Int × Int × Bool × Bool × Int) : Out := ⟨.tup [], [], [(0, [.d (.int .u32 r.1), .d (.int .u32 r.2.1), .d (.int .u8 r.2.2.1), .d (.bool r.2.2.2.1), .d (.bool r.2.2.2.2.1), .d (.int .u64 r.2.2.2.2.2)])], 1⟩
def f72_opt_Tagged_Seal_v4 (tag : Int) (t_0 : Int) (t_1 : Int) (t_2 : Int) (t_3 : Bool) (t_4 : Bool) (t_5 : Int) : Option (Int × Int × Int × Bool × Bool × Int) :=
  some (t_0, t_1, t_2, t_3, t_4, tag)
theorem f72_opt_Tagged_Seal_v4_ok (tag : Int) (t_0 : Int) (t_1 : Int) (t_2 : Int) (t_3 : Bool) (t_4 : Bool) (t_5 : Int) (r : Int × Int × Int × Bool × Bool × Int) (h : f72_opt_Tagged_Seal_v4 tag t_0 t_1 t_2 t_3 t_4 t_5 = some r) : FnOK Go.Proofs.Try.prog 72 (f72_opt_Tagged_Seal_v4_in tag t_0 t_1 t_2 t_3 t_4 t_5) (f72_opt_Tagged_Seal_v4_out r) := by
  unfold f72_opt_Tagged_Seal_v4 at h
  refine At.fn (r := 0) Go.Proofs.Try.func72 rfl (by kernel_rfl) rfl rfl (by kernel_rfl) ?_
  show At Go.Proofs.Try.prog Go.Proofs.Try.f72 1 0 ⟨[(0, .one (.c (.ptr 0 5))), (1, .one (.c (.d (.int .u64 tag))))], [], [(0, [.d (.int .u32 t_0), .d (.int .u32 t_1), .d (.int .u8 t_2), .d (.bool t_3), .d (.bool t_4), .d (.int .u64 t_5)])], 1⟩ _
  have h := Option.some.inj h
  subst h
  exact At.fin hm ht ⟨[], [], [], [], [0]⟩ [5 + 1 ≤ 6] (by kernel_rfl) ⟨(by decide), trivial⟩
end Go.Proofs.YtddglebabaaghaaF10
