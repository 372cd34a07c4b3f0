/- What the functions compute, and that they do: printed by a program of this session (zgen.py), proved by Zed. -/
import Derived.Test.YtjoibacjpapncaaF31bx0
namespace Go.Proofs.YtjoibacjpapncaaF31b
open Go Zed
set_option maxRecDepth 100000
set_option linter.unusedVariables false
/-! (*brougham/sack.Board).Say -/
def f39_sack_Board_Say_in (x_0 : Int) (x_1 : Int) (x_2 : List (Int × Int)) : Inn := ⟨[.c (.ptr 0 0)], [], [(0, [.d (.int .u32 x_0), .d (.int .i64 x_1), .d (.sl (.pair (.int .u32) (.int .u32)) x_2)])], 1⟩
def f39_sack_Board_Say_out (r : Bool × Int × Int × (List (Int × Int)) × Int × List Int) : Out := ⟨.tup [.agg [.d (.int .u8 r.2.2.2.2.1), .own 2 (.int .u8) r.2.2.2.2.2], .c (.d (.bool r.1))], [(2, ⟨5, 0⟩)], [(0, [.d (.int .u32 r.2.1), .d (.int .i64 r.2.2.1), .d (.sl (.pair (.int .u32) (.int .u32)) r.2.2.2.1)]), (1, [.d (.int .u8 r.2.2.2.2.1), .own 2 (.int .u8) r.2.2.2.2.2])], 3⟩
def f39_sack_Board_Say (n : Nat) (x_0 : Int) (x_1 : Int) (x_2 : List (Int × Int)) : Option (Bool × Int × Int × (List (Int × Int)) × Int × List Int) :=
  if cutOk x_2.length none (some (if 4 < ((x_2.length : Nat) : Int) then 4 else ((x_2.length : Nat) : Int))) none then
  (f44_sack_Option n x_0 (x_2.take (if 4 < ((x_2.length : Nat) : Int) then 4 else ((x_2.length : Nat) : Int)).toNat)).bind fun r458_1 =>
  some (r458_1.1, x_0, x_1, x_2, r458_1.2.1, r458_1.2.2)
  else none
theorem f39_sack_Board_Say_ok (n : Nat) (x_0 : Int) (x_1 : Int) (x_2 : List (Int × Int)) (r : Bool × Int × Int × (List (Int × Int)) × Int × List Int) (h : f39_sack_Board_Say n x_0 x_1 x_2 = some r) : FnOK Go.Proofs.Try.prog 39 (f39_sack_Board_Say_in x_0 x_1 x_2) (f39_sack_Board_Say_out r) := by
  unfold f39_sack_Board_Say at h
  refine At.fn (r := 0) Go.Proofs.Try.func39 rfl (by kernel_rfl) rfl rfl (by kernel_rfl) ?_
  show At Go.Proofs.Try.prog Go.Proofs.Try.f39 1 0 ⟨[(0, .one (.c (.ptr 0 0)))], [], [(0, [.d (.int .u32 x_0), .d (.int .i64 x_1), .d (.sl (.pair (.int .u32) (.int .u32)) x_2)])], 1⟩ _
  refine At.step hm ht ⟨[], [], [], [0, 2], [0, 1]⟩ 1 ⟨[(0, .one (.c (.ptr 0 0))), (2, .one (.c (.ptr 1 0)))], [], [(0, [.d (.int .u32 x_0), .d (.int .i64 x_1), .d (.sl (.pair (.int .u32) (.int .u32)) x_2)]), (1, [.d (.int .u8 0), .d (.sl .unit [])])], 2⟩ [] (by kernel_rfl) trivial ?_
  obtain ⟨g458_0, h⟩ := ifS h
  obtain ⟨r458_1, cr458_1, h⟩ := bindS h
  have h := Option.some.inj h
  subst h
  exact At.fin hm ht ⟨[(15, .call [] [] (f44_sack_Option_out r458_1))], [], [], [2, 3], [0, 1, 18]⟩ [cutOk x_2.length none (some (if 4 < ((x_2.length : Nat) : Int) then 4 else ((x_2.length : Nat) : Int))) none, FnOK Go.Proofs.Try.prog 44 (f44_sack_Option_in x_0 (x_2.take (if 4 < ((x_2.length : Nat) : Int) then 4 else ((x_2.length : Nat) : Int)).toNat)) (f44_sack_Option_out r458_1), 0 + 2 ≤ 2] (by kernel_rfl) ⟨g458_0, (f44_sack_Option_ok n x_0 (x_2.take (if 4 < ((x_2.length : Nat) : Int) then 4 else ((x_2.length : Nat) : Int)).toNat) r458_1 cr458_1), (by decide), trivial⟩
/-! brougham/broughamref31.Right -/
def f48_broughamref31_Right_in (wait : Int) (l : List (Int × Int)) : Inn := ⟨[.c (.d (.int .u32 wait)), .c (.d (.sl (.pair (.int .u32) (.int .u32)) l))], [], [], 0⟩
def f48_broughamref31_Right_out (r : Bool) : Out := ⟨.one (.c (.d (.bool r))), [], [], 0⟩
def f48_broughamref31_Right_L3 : Nat → Int → (List (Int × Int)) → Int → Int → Option ((Bool) ⊕ (List (Int × Int)))
  | 0, _, _, _, _ => none
  | n + 1, wait, l, last, i =>
    if (decide ((i : Int) < ((l.length : Nat) : Int))) = true then
      if (0 : Int) ≤ i ∧ i < (((l).length : Nat) : Int) then
      (f86_broughamref04_Diff ((l.getD i.toNat (0, 0)).1) last).bind fun r546_1 =>
      if (decide ((r546_1 : Int) ≤ 0)) = true then
        some (.inl false)
      else
        if (0 : Int) ≤ i ∧ i < (((l).length : Nat) : Int) then
        if (0 : Int) ≤ i ∧ i < (((l).length : Nat) : Int) then
        (f86_broughamref04_Diff ((l.getD i.toNat (0, 0)).2) ((l.getD i.toNat (0, 0)).1)).bind fun r546_4 =>
        if (decide ((r546_4 : Int) ≤ 0)) = true then
          some (.inl false)
        else
          if (0 : Int) ≤ i ∧ i < (((l).length : Nat) : Int) then
          (f86_broughamref04_Diff ((l.getD i.toNat (0, 0)).2) wait).bind fun r546_6 =>
          if (decide ((r546_6 : Int) ≤ 0)) = true then
            some (.inl false)
          else
            if (0 : Int) ≤ i ∧ i < (((l).length : Nat) : Int) then
            f48_broughamref31_Right_L3 n wait l ((l.getD i.toNat (0, 0)).2) (IntKind.wrap .i64 (i + 1))
            else none
          else none
        else none
        else none
      else none
    else
      some (.inr l)
def f48_broughamref31_Right_L3_k (w : (Bool) ⊕ (List (Int × Int))) (o : Out) : Prop := match w with
  | .inl e => o = f48_broughamref31_Right_out e
  | .inr e => At Go.Proofs.Try.prog Go.Proofs.Try.f48 0 8 ⟨[(1, .one (.c (.d (.sl (.pair (.int .u32) (.int .u32)) e))))], [], [], 0⟩ o
theorem f48_broughamref31_Right_L3_ok (n : Nat) : ∀ (wait : Int) (l : List (Int × Int)) (last : Int) (i : Int) (w : (Bool) ⊕ (List (Int × Int))) (h : f48_broughamref31_Right_L3 n wait l last i = some w) (o : Out) (hk : f48_broughamref31_Right_L3_k w o), At Go.Proofs.Try.prog Go.Proofs.Try.f48 0 3 ⟨[(0, .one (.c (.d (.int .u32 wait)))), (1, .one (.c (.d (.sl (.pair (.int .u32) (.int .u32)) l)))), (5, .one (.c (.d (.int .u32 last)))), (6, .one (.c (.d (.int .i64 i))))], [], [], 0⟩ o := by
  induction n with
  | zero => intro wait l last i w h; rw [f48_broughamref31_Right_L3] at h; cases h
  | succ n ih =>
    intro wait l last i w h o hk
    rw [f48_broughamref31_Right_L3] at h
    rcases iteS h with ⟨b545_e0, h⟩ | ⟨b545_e0, h⟩
    · refine At.step hm ht ⟨[], [true], [], [0, 1, 5, 6], []⟩ 5 ⟨[(0, .one (.c (.d (.int .u32 wait)))), (1, .one (.c (.d (.sl (.pair (.int .u32) (.int .u32)) l)))), (5, .one (.c (.d (.int .u32 last)))), (6, .one (.c (.d (.int .i64 i))))], [], [], 0⟩ [(decide ((i : Int) < ((l.length : Nat) : Int))) = true] (by kernel_rfl) ⟨b545_e0, trivial⟩ ?_
      obtain ⟨g546_0, h⟩ := ifS h
      obtain ⟨r546_1, cr546_1, h⟩ := bindS h
      rcases iteS h with ⟨b546_8, h⟩ | ⟨b546_8, h⟩
      · refine At.step hm ht ⟨[(6, .call [] [] (f86_broughamref04_Diff_out r546_1)), (8, .b true)], [true], [], [], []⟩ 6 ⟨[], [], [], 0⟩ [(0 : Int) ≤ i ∧ i < (((l).length : Nat) : Int), FnOK Go.Proofs.Try.prog 86 (f86_broughamref04_Diff_in ((l.getD i.toNat (0, 0)).1) last) (f86_broughamref04_Diff_out r546_1), (decide ((r546_1 : Int) ≤ 0)) = true, true = true] (by kernel_rfl) ⟨g546_0, (f86_broughamref04_Diff_ok ((l.getD i.toNat (0, 0)).1) last r546_1 cr546_1), b546_8, rfl, trivial⟩ ?_
        have h := Option.some.inj h
        subst h
        have hk : o = f48_broughamref31_Right_out false := hk
        subst hk
        exact At.fin hm ht ⟨[], [], [], [4], []⟩ [] (by kernel_rfl) trivial
      · obtain ⟨g546_2, h⟩ := ifS h
        obtain ⟨g546_3, h⟩ := ifS h
        obtain ⟨r546_4, cr546_4, h⟩ := bindS h
        rcases iteS h with ⟨b546_22, h⟩ | ⟨b546_22, h⟩
        · refine At.step hm ht ⟨[(6, .call [] [] (f86_broughamref04_Diff_out r546_1)), (8, .b false), (19, .call [] [] (f86_broughamref04_Diff_out r546_4)), (22, .b true)], [true], [], [], []⟩ 6 ⟨[], [], [], 0⟩ [(0 : Int) ≤ i ∧ i < (((l).length : Nat) : Int), FnOK Go.Proofs.Try.prog 86 (f86_broughamref04_Diff_in ((l.getD i.toNat (0, 0)).1) last) (f86_broughamref04_Diff_out r546_1), (decide ((r546_1 : Int) ≤ 0)) = false, (0 : Int) ≤ i ∧ i < (((l).length : Nat) : Int), (0 : Int) ≤ i ∧ i < (((l).length : Nat) : Int), FnOK Go.Proofs.Try.prog 86 (f86_broughamref04_Diff_in ((l.getD i.toNat (0, 0)).2) ((l.getD i.toNat (0, 0)).1)) (f86_broughamref04_Diff_out r546_4), (decide ((r546_4 : Int) ≤ 0)) = true, true = true] (by kernel_rfl) ⟨g546_0, (f86_broughamref04_Diff_ok ((l.getD i.toNat (0, 0)).1) last r546_1 cr546_1), b546_8, g546_2, g546_3, (f86_broughamref04_Diff_ok ((l.getD i.toNat (0, 0)).2) ((l.getD i.toNat (0, 0)).1) r546_4 cr546_4), b546_22, rfl, trivial⟩ ?_
          have h := Option.some.inj h
          subst h
          have hk : o = f48_broughamref31_Right_out false := hk
          subst hk
          exact At.fin hm ht ⟨[], [], [], [4], []⟩ [] (by kernel_rfl) trivial
        · obtain ⟨g546_5, h⟩ := ifS h
          obtain ⟨r546_6, cr546_6, h⟩ := bindS h
          rcases iteS h with ⟨b546_e0, h⟩ | ⟨b546_e0, h⟩
          · refine At.step hm ht ⟨[(6, .call [] [] (f86_broughamref04_Diff_out r546_1)), (8, .b false), (19, .call [] [] (f86_broughamref04_Diff_out r546_4)), (22, .b false), (29, .call [] [] (f86_broughamref04_Diff_out r546_6))], [true], [], [], []⟩ 6 ⟨[], [], [], 0⟩ [(0 : Int) ≤ i ∧ i < (((l).length : Nat) : Int), FnOK Go.Proofs.Try.prog 86 (f86_broughamref04_Diff_in ((l.getD i.toNat (0, 0)).1) last) (f86_broughamref04_Diff_out r546_1), (decide ((r546_1 : Int) ≤ 0)) = false, (0 : Int) ≤ i ∧ i < (((l).length : Nat) : Int), (0 : Int) ≤ i ∧ i < (((l).length : Nat) : Int), FnOK Go.Proofs.Try.prog 86 (f86_broughamref04_Diff_in ((l.getD i.toNat (0, 0)).2) ((l.getD i.toNat (0, 0)).1)) (f86_broughamref04_Diff_out r546_4), (decide ((r546_4 : Int) ≤ 0)) = false, (0 : Int) ≤ i ∧ i < (((l).length : Nat) : Int), FnOK Go.Proofs.Try.prog 86 (f86_broughamref04_Diff_in ((l.getD i.toNat (0, 0)).2) wait) (f86_broughamref04_Diff_out r546_6), (decide ((r546_6 : Int) ≤ 0)) = true] (by kernel_rfl) ⟨g546_0, (f86_broughamref04_Diff_ok ((l.getD i.toNat (0, 0)).1) last r546_1 cr546_1), b546_8, g546_2, g546_3, (f86_broughamref04_Diff_ok ((l.getD i.toNat (0, 0)).2) ((l.getD i.toNat (0, 0)).1) r546_4 cr546_4), b546_22, g546_5, (f86_broughamref04_Diff_ok ((l.getD i.toNat (0, 0)).2) wait r546_6 cr546_6), b546_e0, trivial⟩ ?_
            have h := Option.some.inj h
            subst h
            have hk : o = f48_broughamref31_Right_out false := hk
            subst hk
            exact At.fin hm ht ⟨[], [], [], [4], []⟩ [] (by kernel_rfl) trivial
          · refine At.step hm ht ⟨[(6, .call [] [] (f86_broughamref04_Diff_out r546_1)), (8, .b false), (19, .call [] [] (f86_broughamref04_Diff_out r546_4)), (22, .b false), (29, .call [] [] (f86_broughamref04_Diff_out r546_6))], [false], [], [0, 1, 6], []⟩ 7 ⟨[(0, .one (.c (.d (.int .u32 wait)))), (1, .one (.c (.d (.sl (.pair (.int .u32) (.int .u32)) l)))), (6, .one (.c (.d (.int .i64 i))))], [], [], 0⟩ [(0 : Int) ≤ i ∧ i < (((l).length : Nat) : Int), FnOK Go.Proofs.Try.prog 86 (f86_broughamref04_Diff_in ((l.getD i.toNat (0, 0)).1) last) (f86_broughamref04_Diff_out r546_1), (decide ((r546_1 : Int) ≤ 0)) = false, (0 : Int) ≤ i ∧ i < (((l).length : Nat) : Int), (0 : Int) ≤ i ∧ i < (((l).length : Nat) : Int), FnOK Go.Proofs.Try.prog 86 (f86_broughamref04_Diff_in ((l.getD i.toNat (0, 0)).2) ((l.getD i.toNat (0, 0)).1)) (f86_broughamref04_Diff_out r546_4), (decide ((r546_4 : Int) ≤ 0)) = false, (0 : Int) ≤ i ∧ i < (((l).length : Nat) : Int), FnOK Go.Proofs.Try.prog 86 (f86_broughamref04_Diff_in ((l.getD i.toNat (0, 0)).2) wait) (f86_broughamref04_Diff_out r546_6), (decide ((r546_6 : Int) ≤ 0)) = false] (by kernel_rfl) ⟨g546_0, (f86_broughamref04_Diff_ok ((l.getD i.toNat (0, 0)).1) last r546_1 cr546_1), b546_8, g546_2, g546_3, (f86_broughamref04_Diff_ok ((l.getD i.toNat (0, 0)).2) ((l.getD i.toNat (0, 0)).1) r546_4 cr546_4), b546_22, g546_5, (f86_broughamref04_Diff_ok ((l.getD i.toNat (0, 0)).2) wait r546_6 cr546_6), b546_e0, trivial⟩ ?_
            obtain ⟨g550_0, h⟩ := ifS h
            refine At.step hm ht ⟨[], [], [], [0, 1, 5, 6], []⟩ 4 ⟨[(0, .one (.c (.d (.int .u32 wait)))), (1, .one (.c (.d (.sl (.pair (.int .u32) (.int .u32)) l)))), (5, .one (.c (.d (.int .u32 ((l.getD i.toNat (0, 0)).2))))), (6, .one (.c (.d (.int .i64 i))))], [], [], 0⟩ [(0 : Int) ≤ i ∧ i < (((l).length : Nat) : Int)] (by kernel_rfl) ⟨g550_0, trivial⟩ ?_
            refine At.step hm ht ⟨[], [], [], [0, 1, 5, 6], []⟩ 3 ⟨[(0, .one (.c (.d (.int .u32 wait)))), (1, .one (.c (.d (.sl (.pair (.int .u32) (.int .u32)) l)))), (5, .one (.c (.d (.int .u32 ((l.getD i.toNat (0, 0)).2))))), (6, .one (.c (.d (.int .i64 (IntKind.wrap .i64 (i + 1))))))], [], [], 0⟩ [] (by kernel_rfl) trivial ?_
            exact ih wait l ((l.getD i.toNat (0, 0)).2) (IntKind.wrap .i64 (i + 1)) w h o hk
    · refine At.step hm ht ⟨[], [false], [], [1], []⟩ 8 ⟨[(1, .one (.c (.d (.sl (.pair (.int .u32) (.int .u32)) l))))], [], [], 0⟩ [(decide ((i : Int) < ((l.length : Nat) : Int))) = false] (by kernel_rfl) ⟨b545_e0, trivial⟩ ?_
      have h := Option.some.inj h
      subst h
      exact hk
def f48_broughamref31_Right (n : Nat) (wait : Int) (l : List (Int × Int)) : Option (Bool) :=
  (f48_broughamref31_Right_L3 n wait l wait 0).bind fun w552 =>
  match w552 with
  | .inl e553 =>
    some e553
  | .inr e554 =>
    some (decide ((((e554.length : Nat) : Int) : Int) ≤ 4))
theorem f48_broughamref31_Right_ok (n : Nat) (wait : Int) (l : List (Int × Int)) (r : Bool) (h : f48_broughamref31_Right n wait l = some r) : FnOK Go.Proofs.Try.prog 48 (f48_broughamref31_Right_in wait l) (f48_broughamref31_Right_out r) := by
  unfold f48_broughamref31_Right at h
  refine At.fn (r := 0) Go.Proofs.Try.func48 rfl (by kernel_rfl) rfl rfl (by kernel_rfl) ?_
  show At Go.Proofs.Try.prog Go.Proofs.Try.f48 0 0 ⟨[(0, .one (.c (.d (.int .u32 wait)))), (1, .one (.c (.d (.sl (.pair (.int .u32) (.int .u32)) l))))], [], [], 0⟩ _
  refine At.step hm ht ⟨[], [], [], [0, 1], []⟩ 1 ⟨[(0, .one (.c (.d (.int .u32 wait)))), (1, .one (.c (.d (.sl (.pair (.int .u32) (.int .u32)) l))))], [], [], 0⟩ [] (by kernel_rfl) trivial ?_
  refine At.step hm ht ⟨[], [], [], [0, 1, 5], []⟩ 2 ⟨[(0, .one (.c (.d (.int .u32 wait)))), (1, .one (.c (.d (.sl (.pair (.int .u32) (.int .u32)) l)))), (5, .one (.c (.d (.int .u32 wait))))], [], [], 0⟩ [] (by kernel_rfl) trivial ?_
  refine At.step hm ht ⟨[], [], [], [0, 1, 5, 6], []⟩ 3 ⟨[(0, .one (.c (.d (.int .u32 wait)))), (1, .one (.c (.d (.sl (.pair (.int .u32) (.int .u32)) l)))), (5, .one (.c (.d (.int .u32 wait)))), (6, .one (.c (.d (.int .i64 0))))], [], [], 0⟩ [] (by kernel_rfl) trivial ?_
  obtain ⟨w552, cw552, h⟩ := bindS h
  refine f48_broughamref31_Right_L3_ok n wait l wait 0 w552 cw552 _ ?_
  rcases w552 with e553 | e554
  · have h := Option.some.inj h
    subst h
    rfl
  · show At Go.Proofs.Try.prog Go.Proofs.Try.f48 0 8 ⟨[(1, .one (.c (.d (.sl (.pair (.int .u32) (.int .u32)) e554))))], [], [], 0⟩ _
    have h := Option.some.inj h
    subst h
    exact At.fin hm ht ⟨[], [], [], [4], []⟩ [] (by kernel_rfl) trivial
/-! brougham/broughamref02.Put -/
def f82_broughamref02_Put_in (n_ : Int) (bytes : Int) : Inn := ⟨[.c (.d (.sl .unit [])), .c (.d (.int .u64 n_)), .c (.d (.int .i64 bytes))], [], [], 0⟩
def f82_broughamref02_Put_out (r : List Int) : Out := ⟨.one (.c (.own 0 (.int .u8) r)), [(0, ⟨5, 0⟩)], [], 1⟩
def f82_broughamref02_Put : Nat → Int → Int → Option (List Int)
  | 0, _, _ => none
  | n + 1, n_, bytes =>
    if (decide ((bytes : Int) < 1)) = true then
      some []
    else
      if (decide ((bytes : Int) > 8)) = true then
        some []
      else
        (f82_broughamref02_Put n (IntKind.wrap .u64 (Int.tdiv n_ 256)) (IntKind.wrap .i64 (bytes - 1))).bind fun r578_0 =>
        if r578_0.length + [(IntKind.wrap .u8 (Int.tmod n_ 256))].length ≤ maxLen ∧ (r578_0.length + [(IntKind.wrap .u8 (Int.tmod n_ 256))].length) * 1 ≤ 140737488355328 then
        some (r578_0 ++ [(IntKind.wrap .u8 (Int.tmod n_ 256))])
        else none
theorem f82_broughamref02_Put_ok (n : Nat) : ∀ (n_ : Int) (bytes : Int) (r : List Int) (h : f82_broughamref02_Put n n_ bytes = some r), FnOK Go.Proofs.Try.prog 82 (f82_broughamref02_Put_in n_ bytes) (f82_broughamref02_Put_out r) := by
  induction n with
  | zero => intro n_ bytes r h; rw [f82_broughamref02_Put] at h; cases h
  | succ n ih =>
    intro n_ bytes r h
    rw [f82_broughamref02_Put] at h
    refine At.fn (r := 0) Go.Proofs.Try.func82 rfl (by kernel_rfl) rfl rfl (by kernel_rfl) ?_
    show At Go.Proofs.Try.prog Go.Proofs.Try.f82 0 0 ⟨[(0, .one (.c (.d (.sl .unit [])))), (1, .one (.c (.d (.int .u64 n_)))), (2, .one (.c (.d (.int .i64 bytes))))], [], [], 0⟩ _
    refine At.step hm ht ⟨[], [], [], [0, 1, 2], []⟩ 1 ⟨[(0, .one (.c (.d (.sl .unit [])))), (1, .one (.c (.d (.int .u64 n_)))), (2, .one (.c (.d (.int .i64 bytes))))], [], [], 0⟩ [] (by kernel_rfl) trivial ?_
    rcases iteS h with ⟨b575_2, h⟩ | ⟨b575_2, h⟩
    · refine At.step hm ht ⟨[(2, .b true)], [true], [], [0], []⟩ 2 ⟨[(0, .one (.c (.d (.sl .unit []))))], [], [], 0⟩ [(decide ((bytes : Int) < 1)) = true, true = true] (by kernel_rfl) ⟨b575_2, rfl, trivial⟩ ?_
      have h := Option.some.inj h
      subst h
      exact At.fin hm ht ⟨[], [], [.nil false 6 0 (.int .u8) (some 5)], [6], [2]⟩ [] (by kernel_rfl) trivial
    · rcases iteS h with ⟨b575_e0, h⟩ | ⟨b575_e0, h⟩
      · refine At.step hm ht ⟨[(2, .b false)], [true], [], [0], []⟩ 2 ⟨[(0, .one (.c (.d (.sl .unit []))))], [], [], 0⟩ [(decide ((bytes : Int) < 1)) = false, (decide ((bytes : Int) > 8)) = true] (by kernel_rfl) ⟨b575_2, b575_e0, trivial⟩ ?_
        have h := Option.some.inj h
        subst h
        exact At.fin hm ht ⟨[], [], [.nil false 6 0 (.int .u8) (some 5)], [6], [2]⟩ [] (by kernel_rfl) trivial
      · refine At.step hm ht ⟨[(2, .b false)], [false], [], [0, 1, 2], []⟩ 3 ⟨[(0, .one (.c (.d (.sl .unit [])))), (1, .one (.c (.d (.int .u64 n_)))), (2, .one (.c (.d (.int .i64 bytes))))], [], [], 0⟩ [(decide ((bytes : Int) < 1)) = false, (decide ((bytes : Int) > 8)) = false] (by kernel_rfl) ⟨b575_2, b575_e0, trivial⟩ ?_
        obtain ⟨r578_0, cr578_0, h⟩ := bindS h
        refine At.step hm ht ⟨[(5, .call [] [] (f82_broughamref02_Put_out r578_0))], [], [], [0, 1], [5]⟩ 4 ⟨[(0, .one (.c (.own 0 (.int .u8) r578_0))), (1, .one (.c (.d (.int .u64 n_))))], [(0, some ⟨5, 0⟩)], [], 1⟩ [(256 : Int) ≠ 0, FnOK Go.Proofs.Try.prog 82 (f82_broughamref02_Put_in (IntKind.wrap .u64 (Int.tdiv n_ 256)) (IntKind.wrap .i64 (bytes - 1))) (f82_broughamref02_Put_out r578_0)] (by kernel_rfl) ⟨(by decide), (ih (IntKind.wrap .u64 (Int.tdiv n_ 256)) (IntKind.wrap .i64 (bytes - 1)) r578_0 cr578_0), trivial⟩ ?_
        obtain ⟨g579_0, h⟩ := ifS h
        have h := Option.some.inj h
        subst h
        exact At.fin hm ht ⟨[], [], [], [6], [6]⟩ [(256 : Int) ≠ 0, r578_0.length + [(IntKind.wrap .u8 (Int.tmod n_ 256))].length ≤ maxLen ∧ (r578_0.length + [(IntKind.wrap .u8 (Int.tmod n_ 256))].length) * 1 ≤ 140737488355328] (by kernel_rfl) ⟨(by decide), g579_0, trivial⟩
/-! brougham/broughamref02.Put -/
def f82_broughamref02_Put_v2_in (b : List Int) (n_ : Int) (bytes : Int) : Inn := ⟨[.c (.own 0 (.int .u8) b), .c (.d (.int .u64 n_)), .c (.d (.int .i64 bytes))], [(0, ⟨5, 0⟩)], [], 1⟩
def f82_broughamref02_Put_v2_out (r : List Int) : Out := ⟨.one (.c (.own 1 (.int .u8) r)), [(1, ⟨5, 0⟩)], [], 2⟩
def f82_broughamref02_Put_v2 : Nat → (List Int) → Int → Int → Option (List Int)
  | 0, _, _, _ => none
  | n + 1, b, n_, bytes =>
    if (decide ((bytes : Int) < 1)) = true then
      some b
    else
      if (decide ((bytes : Int) > 8)) = true then
        some b
      else
        (f82_broughamref02_Put_v2 n b (IntKind.wrap .u64 (Int.tdiv n_ 256)) (IntKind.wrap .i64 (bytes - 1))).bind fun r590_0 =>
        if r590_0.length + [(IntKind.wrap .u8 (Int.tmod n_ 256))].length ≤ maxLen ∧ (r590_0.length + [(IntKind.wrap .u8 (Int.tmod n_ 256))].length) * 1 ≤ 140737488355328 then
        some (r590_0 ++ [(IntKind.wrap .u8 (Int.tmod n_ 256))])
        else none
theorem f82_broughamref02_Put_v2_ok (n : Nat) : ∀ (b : List Int) (n_ : Int) (bytes : Int) (r : List Int) (h : f82_broughamref02_Put_v2 n b n_ bytes = some r), FnOK Go.Proofs.Try.prog 82 (f82_broughamref02_Put_v2_in b n_ bytes) (f82_broughamref02_Put_v2_out r) := by
  induction n with
  | zero => intro b n_ bytes r h; rw [f82_broughamref02_Put_v2] at h; cases h
  | succ n ih =>
    intro b n_ bytes r h
    rw [f82_broughamref02_Put_v2] at h
    refine At.fn (r := 0) Go.Proofs.Try.func82 rfl (by kernel_rfl) rfl rfl (by kernel_rfl) ?_
    show At Go.Proofs.Try.prog Go.Proofs.Try.f82 1 0 ⟨[(0, .one (.c (.own 0 (.int .u8) b))), (1, .one (.c (.d (.int .u64 n_)))), (2, .one (.c (.d (.int .i64 bytes))))], [(0, some ⟨5, 0⟩)], [], 1⟩ _
    refine At.step hm ht ⟨[], [], [], [0, 1, 2], [0]⟩ 1 ⟨[(0, .one (.c (.own 0 (.int .u8) b))), (1, .one (.c (.d (.int .u64 n_)))), (2, .one (.c (.d (.int .i64 bytes))))], [(0, some ⟨5, 0⟩)], [], 1⟩ [] (by kernel_rfl) trivial ?_
    rcases iteS h with ⟨b587_2, h⟩ | ⟨b587_2, h⟩
    · refine At.step hm ht ⟨[(2, .b true)], [true], [], [0], [0]⟩ 2 ⟨[(0, .one (.c (.own 0 (.int .u8) b)))], [(0, some ⟨5, 0⟩)], [], 1⟩ [(decide ((bytes : Int) < 1)) = true, true = true] (by kernel_rfl) ⟨b587_2, rfl, trivial⟩ ?_
      have h := Option.some.inj h
      subst h
      exact At.fin hm ht ⟨[], [], [.mv 0 6 0], [6], [0, 3]⟩ [] (by kernel_rfl) trivial
    · rcases iteS h with ⟨b587_e0, h⟩ | ⟨b587_e0, h⟩
      · refine At.step hm ht ⟨[(2, .b false)], [true], [], [0], [0]⟩ 2 ⟨[(0, .one (.c (.own 0 (.int .u8) b)))], [(0, some ⟨5, 0⟩)], [], 1⟩ [(decide ((bytes : Int) < 1)) = false, (decide ((bytes : Int) > 8)) = true] (by kernel_rfl) ⟨b587_2, b587_e0, trivial⟩ ?_
        have h := Option.some.inj h
        subst h
        exact At.fin hm ht ⟨[], [], [.mv 0 6 0], [6], [0, 3]⟩ [] (by kernel_rfl) trivial
      · refine At.step hm ht ⟨[(2, .b false)], [false], [], [0, 1, 2], [0]⟩ 3 ⟨[(0, .one (.c (.own 0 (.int .u8) b))), (1, .one (.c (.d (.int .u64 n_)))), (2, .one (.c (.d (.int .i64 bytes))))], [(0, some ⟨5, 0⟩)], [], 1⟩ [(decide ((bytes : Int) < 1)) = false, (decide ((bytes : Int) > 8)) = false] (by kernel_rfl) ⟨b587_2, b587_e0, trivial⟩ ?_
        obtain ⟨r590_0, cr590_0, h⟩ := bindS h
        refine At.step hm ht ⟨[(5, .call [0] [] (f82_broughamref02_Put_v2_out r590_0))], [], [], [0, 1], [0, 7]⟩ 4 ⟨[(0, .one (.c (.own 1 (.int .u8) r590_0))), (1, .one (.c (.d (.int .u64 n_))))], [(1, some ⟨5, 0⟩)], [], 2⟩ [(256 : Int) ≠ 0, FnOK Go.Proofs.Try.prog 82 (f82_broughamref02_Put_v2_in b (IntKind.wrap .u64 (Int.tdiv n_ 256)) (IntKind.wrap .i64 (bytes - 1))) (f82_broughamref02_Put_v2_out r590_0)] (by kernel_rfl) ⟨(by decide), (ih b (IntKind.wrap .u64 (Int.tdiv n_ 256)) (IntKind.wrap .i64 (bytes - 1)) r590_0 cr590_0), trivial⟩ ?_
        obtain ⟨g591_0, h⟩ := ifS h
        have h := Option.some.inj h
        subst h
        exact At.fin hm ht ⟨[], [], [], [6], [0, 7]⟩ [(256 : Int) ≠ 0, r590_0.length + [(IntKind.wrap .u8 (Int.tmod n_ 256))].length ≤ maxLen ∧ (r590_0.length + [(IntKind.wrap .u8 (Int.tmod n_ 256))].length) * 1 ≤ 140737488355328] (by kernel_rfl) ⟨(by decide), g591_0, trivial⟩
/-! brougham/broughamref31.Option -/
def f40_broughamref31_Option_in (wait : Int) (l : List (Int × Int)) : Inn := ⟨[.c (.d (.int .u32 wait)), .c (.d (.sl (.pair (.int .u32) (.int .u32)) l))], [], [], 0⟩
def f40_broughamref31_Option_out (r : List Int × Bool) : Out := ⟨.tup [.c (.own 0 (.int .u8) r.1), .c (.d (.bool r.2))], [(0, ⟨5, 0⟩)], [], 1⟩
def f40_broughamref31_Option_L6 : Nat → (List (Int × Int)) → (List Int) → Int → Int → Option (List Int)
  | 0, _, _, _, _ => none
  | n + 1, l, b, last, i =>
    if (decide ((i : Int) < ((l.length : Nat) : Int))) = true then
      if (0 : Int) ≤ i ∧ i < (((l).length : Nat) : Int) then
      (f82_broughamref02_Put_v2 n b (IntKind.wrap .u64 (IntKind.wrap .u32 (((l.getD i.toNat (0, 0)).1) - last))) 4).bind fun r616_1 =>
      if (0 : Int) ≤ i ∧ i < (((l).length : Nat) : Int) then
      if (0 : Int) ≤ i ∧ i < (((l).length : Nat) : Int) then
      (f82_broughamref02_Put_v2 n r616_1 (IntKind.wrap .u64 (IntKind.wrap .u32 (((l.getD i.toNat (0, 0)).2) - ((l.getD i.toNat (0, 0)).1)))) 4).bind fun r616_4 =>
      if (0 : Int) ≤ i ∧ i < (((l).length : Nat) : Int) then
      f40_broughamref31_Option_L6 n l r616_4 ((l.getD i.toNat (0, 0)).2) (IntKind.wrap .i64 (i + 1))
      else none
      else none
      else none
      else none
    else
      some (b)
def f40_broughamref31_Option_L6_k (e : List Int) (o : Out) : Prop := At Go.Proofs.Try.prog Go.Proofs.Try.f40 0 10 ⟨[(6, .one (.c (.own 0 (.int .u8) e)))], [(0, some ⟨5, 0⟩)], [], 1⟩ o
theorem f40_broughamref31_Option_L6_ok (n : Nat) : ∀ (l : List (Int × Int)) (b : List Int) (last : Int) (i : Int) (w : List Int) (h : f40_broughamref31_Option_L6 n l b last i = some w) (o : Out) (hk : f40_broughamref31_Option_L6_k w o), At Go.Proofs.Try.prog Go.Proofs.Try.f40 0 6 ⟨[(1, .one (.c (.d (.sl (.pair (.int .u32) (.int .u32)) l)))), (6, .one (.c (.own 0 (.int .u8) b))), (7, .one (.c (.d (.int .u32 last)))), (8, .one (.c (.d (.int .i64 i))))], [(0, some ⟨5, 0⟩)], [], 1⟩ o := by
  induction n with
  | zero => intro l b last i w h; rw [f40_broughamref31_Option_L6] at h; cases h
  | succ n ih =>
    intro l b last i w h o hk
    rw [f40_broughamref31_Option_L6] at h
    rcases iteS h with ⟨b615_e0, h⟩ | ⟨b615_e0, h⟩
    · refine At.step hm ht ⟨[], [true], [], [1, 6, 7, 8], [0]⟩ 8 ⟨[(1, .one (.c (.d (.sl (.pair (.int .u32) (.int .u32)) l)))), (6, .one (.c (.own 0 (.int .u8) b))), (7, .one (.c (.d (.int .u32 last)))), (8, .one (.c (.d (.int .i64 i))))], [(0, some ⟨5, 0⟩)], [], 1⟩ [(decide ((i : Int) < ((l.length : Nat) : Int))) = true] (by kernel_rfl) ⟨b615_e0, trivial⟩ ?_
      obtain ⟨g616_0, h⟩ := ifS h
      obtain ⟨r616_1, cr616_1, h⟩ := bindS h
      obtain ⟨g616_2, h⟩ := ifS h
      obtain ⟨g616_3, h⟩ := ifS h
      obtain ⟨r616_4, cr616_4, h⟩ := bindS h
      refine At.step hm ht ⟨[(9, .call [0] [] (f82_broughamref02_Put_v2_out r616_1)), (22, .call [11] [] (f82_broughamref02_Put_v2_out r616_4))], [], [], [1, 6, 8], [25]⟩ 9 ⟨[(1, .one (.c (.d (.sl (.pair (.int .u32) (.int .u32)) l)))), (6, .one (.c (.own 0 (.int .u8) r616_4))), (8, .one (.c (.d (.int .i64 i))))], [(0, some ⟨5, 0⟩)], [], 1⟩ [(0 : Int) ≤ i ∧ i < (((l).length : Nat) : Int), FnOK Go.Proofs.Try.prog 82 (f82_broughamref02_Put_v2_in b (IntKind.wrap .u64 (IntKind.wrap .u32 (((l.getD i.toNat (0, 0)).1) - last))) 4) (f82_broughamref02_Put_v2_out r616_1), (0 : Int) ≤ i ∧ i < (((l).length : Nat) : Int), (0 : Int) ≤ i ∧ i < (((l).length : Nat) : Int), FnOK Go.Proofs.Try.prog 82 (f82_broughamref02_Put_v2_in r616_1 (IntKind.wrap .u64 (IntKind.wrap .u32 (((l.getD i.toNat (0, 0)).2) - ((l.getD i.toNat (0, 0)).1)))) 4) (f82_broughamref02_Put_v2_out r616_4)] (by kernel_rfl) ⟨g616_0, (f82_broughamref02_Put_v2_ok n b (IntKind.wrap .u64 (IntKind.wrap .u32 (((l.getD i.toNat (0, 0)).1) - last))) 4 r616_1 cr616_1), g616_2, g616_3, (f82_broughamref02_Put_v2_ok n r616_1 (IntKind.wrap .u64 (IntKind.wrap .u32 (((l.getD i.toNat (0, 0)).2) - ((l.getD i.toNat (0, 0)).1)))) 4 r616_4 cr616_4), trivial⟩ ?_
      obtain ⟨g617_0, h⟩ := ifS h
      refine At.step hm ht ⟨[], [], [], [1, 6, 7, 8], [0]⟩ 7 ⟨[(1, .one (.c (.d (.sl (.pair (.int .u32) (.int .u32)) l)))), (6, .one (.c (.own 0 (.int .u8) r616_4))), (7, .one (.c (.d (.int .u32 ((l.getD i.toNat (0, 0)).2))))), (8, .one (.c (.d (.int .i64 i))))], [(0, some ⟨5, 0⟩)], [], 1⟩ [(0 : Int) ≤ i ∧ i < (((l).length : Nat) : Int)] (by kernel_rfl) ⟨g617_0, trivial⟩ ?_
      refine At.step hm ht ⟨[], [], [], [1, 6, 7, 8], [0]⟩ 6 ⟨[(1, .one (.c (.d (.sl (.pair (.int .u32) (.int .u32)) l)))), (6, .one (.c (.own 0 (.int .u8) r616_4))), (7, .one (.c (.d (.int .u32 ((l.getD i.toNat (0, 0)).2))))), (8, .one (.c (.d (.int .i64 (IntKind.wrap .i64 (i + 1))))))], [(0, some ⟨5, 0⟩)], [], 1⟩ [] (by kernel_rfl) trivial ?_
      exact ih l r616_4 ((l.getD i.toNat (0, 0)).2) (IntKind.wrap .i64 (i + 1)) w h o hk
    · refine At.step hm ht ⟨[], [false], [], [6], [0]⟩ 10 ⟨[(6, .one (.c (.own 0 (.int .u8) b)))], [(0, some ⟨5, 0⟩)], [], 1⟩ [(decide ((i : Int) < ((l.length : Nat) : Int))) = false] (by kernel_rfl) ⟨b615_e0, trivial⟩ ?_
      have h := Option.some.inj h
      subst h
      exact hk
def f40_broughamref31_Option (n : Nat) (wait : Int) (l : List (Int × Int)) : Option (List Int × Bool) :=
  if ((((l.length : Nat) : Int) : Int) == 0) = true then
    some ([], false)
  else
    (f48_broughamref31_Right n wait l).bind fun r609_0 =>
    if (!r609_0) = true then
      some ([], false)
    else
      (f40_broughamref31_Option_L6 n l [] wait 0).bind fun w619 =>
      some (w619, true)
theorem f40_broughamref31_Option_ok (n : Nat) (wait : Int) (l : List (Int × Int)) (r : List Int × Bool) (h : f40_broughamref31_Option n wait l = some r) : FnOK Go.Proofs.Try.prog 40 (f40_broughamref31_Option_in wait l) (f40_broughamref31_Option_out r) := by
  unfold f40_broughamref31_Option at h
  refine At.fn (r := 0) Go.Proofs.Try.func40 rfl (by kernel_rfl) rfl rfl (by kernel_rfl) ?_
  show At Go.Proofs.Try.prog Go.Proofs.Try.f40 0 0 ⟨[(0, .one (.c (.d (.int .u32 wait)))), (1, .one (.c (.d (.sl (.pair (.int .u32) (.int .u32)) l))))], [], [], 0⟩ _
  refine At.step hm ht ⟨[], [], [], [0, 1], []⟩ 1 ⟨[(0, .one (.c (.d (.int .u32 wait)))), (1, .one (.c (.d (.sl (.pair (.int .u32) (.int .u32)) l))))], [], [], 0⟩ [] (by kernel_rfl) trivial ?_
  rcases iteS h with ⟨b609_3, h⟩ | ⟨b609_3, h⟩
  · refine At.step hm ht ⟨[(3, .b true)], [true], [], [], []⟩ 2 ⟨[], [], [], 0⟩ [((((l.length : Nat) : Int) : Int) == 0) = true, true = true] (by kernel_rfl) ⟨b609_3, rfl, trivial⟩ ?_
    have h := Option.some.inj h
    subst h
    exact At.fin hm ht ⟨[], [], [.nil false 4 0 (.int .u8) (some 5)], [4, 5], [2]⟩ [] (by kernel_rfl) trivial
  · obtain ⟨r609_0, cr609_0, h⟩ := bindS h
    rcases iteS h with ⟨b609_e0, h⟩ | ⟨b609_e0, h⟩
    · refine At.step hm ht ⟨[(3, .b false), (6, .call [] [] (f48_broughamref31_Right_out r609_0))], [true], [], [], []⟩ 2 ⟨[], [], [], 0⟩ [((((l.length : Nat) : Int) : Int) == 0) = false, FnOK Go.Proofs.Try.prog 48 (f48_broughamref31_Right_in wait l) (f48_broughamref31_Right_out r609_0), (!r609_0) = true] (by kernel_rfl) ⟨b609_3, (f48_broughamref31_Right_ok n wait l r609_0 cr609_0), b609_e0, trivial⟩ ?_
      have h := Option.some.inj h
      subst h
      exact At.fin hm ht ⟨[], [], [.nil false 4 0 (.int .u8) (some 5)], [4, 5], [2]⟩ [] (by kernel_rfl) trivial
    · refine At.step hm ht ⟨[(3, .b false), (6, .call [] [] (f48_broughamref31_Right_out r609_0))], [false], [], [0, 1], []⟩ 3 ⟨[(0, .one (.c (.d (.int .u32 wait)))), (1, .one (.c (.d (.sl (.pair (.int .u32) (.int .u32)) l))))], [], [], 0⟩ [((((l.length : Nat) : Int) : Int) == 0) = false, FnOK Go.Proofs.Try.prog 48 (f48_broughamref31_Right_in wait l) (f48_broughamref31_Right_out r609_0), (!r609_0) = false] (by kernel_rfl) ⟨b609_3, (f48_broughamref31_Right_ok n wait l r609_0 cr609_0), b609_e0, trivial⟩ ?_
      refine At.step hm ht ⟨[], [], [], [0, 1, 6], []⟩ 4 ⟨[(0, .one (.c (.d (.int .u32 wait)))), (1, .one (.c (.d (.sl (.pair (.int .u32) (.int .u32)) l)))), (6, .one (.c (.d (.sl .unit []))))], [], [], 0⟩ [] (by kernel_rfl) trivial ?_
      refine At.step hm ht ⟨[], [], [], [1, 6, 7], []⟩ 5 ⟨[(1, .one (.c (.d (.sl (.pair (.int .u32) (.int .u32)) l)))), (6, .one (.c (.d (.sl .unit [])))), (7, .one (.c (.d (.int .u32 wait))))], [], [], 0⟩ [] (by kernel_rfl) trivial ?_
      refine At.step hm ht ⟨[], [], [.nil false 6 0 (.int .u8) (some 5)], [1, 6, 7, 8], [1]⟩ 6 ⟨[(1, .one (.c (.d (.sl (.pair (.int .u32) (.int .u32)) l)))), (6, .one (.c (.own 0 (.int .u8) []))), (7, .one (.c (.d (.int .u32 wait)))), (8, .one (.c (.d (.int .i64 0))))], [(0, some ⟨5, 0⟩)], [], 1⟩ [] (by kernel_rfl) trivial ?_
      obtain ⟨w619, cw619, h⟩ := bindS h
      refine f40_broughamref31_Option_L6_ok n l [] wait 0 w619 cw619 _ ?_
      show At Go.Proofs.Try.prog Go.Proofs.Try.f40 0 10 ⟨[(6, .one (.c (.own 0 (.int .u8) w619)))], [(0, some ⟨5, 0⟩)], [], 1⟩ _
      have h := Option.some.inj h
      subst h
      exact At.fin hm ht ⟨[], [], [], [4, 5], [0]⟩ [] (by kernel_rfl) trivial
/-! brougham/broughamlaw31.alive -/
def f41_broughamlaw31_alive_in : Inn := ⟨[], [], [], 0⟩
def f41_broughamlaw31_alive_out (r : Bool) : Out := ⟨.one (.c (.d (.bool r))), [], [], 0⟩
def f41_broughamlaw31_alive (n : Nat) : Option (Bool) :=
  (f31_sack_New 5 4).bind fun r624_0 =>
  (f33_sack_Board_Came n 7 2 r624_0.1 r624_0.2).bind fun r626_0 =>
  (f33_sack_Board_Came_v2 n 5 1 r626_0.2.1 r626_0.2.2.1 r626_0.2.2.2).bind fun r627_0 =>
  (f37_sack_Board_Blocks r627_0.2.1 r627_0.2.2.1 r627_0.2.2.2).bind fun r628_0 =>
  (f34_sack_Board_Wait r628_0.2.1 r628_0.2.2.1 r628_0.2.2.2).bind fun r629_0 =>
  (f33_sack_Board_Came_v2 n 6 1 r629_0.2.1 r629_0.2.2.1 r629_0.2.2.2).bind fun r630_0 =>
  if r626_0.1 = true then
    if r627_0.1 = true then
      if ((((r628_0.1.length : Nat) : Int) : Int) == 1) = true then
        if (0 : Int) ≤ 0 ∧ 0 < (((r628_0.1).length : Nat) : Int) then
        if (((((r628_0.1.getD 0 (0, 0)).1) : Int) == 7) && ((((r628_0.1.getD 0 (0, 0)).2) : Int) == 9)) = true then
          if ((r629_0.1 : Int) == 6) = true then
            if r630_0.1 = true then
              (f34_sack_Board_Wait r630_0.2.1 r630_0.2.2.1 r630_0.2.2.2).bind fun r631_1 =>
              if ((r631_1.1 : Int) == 9) = true then
                some true
              else
                some false
            else
              some false
          else
            some false
        else
          some false
        else none
      else
        some false
    else
      some false
  else
    some false
theorem f41_broughamlaw31_alive_ok (n : Nat) (r : Bool) (h : f41_broughamlaw31_alive n = some r) : FnOK Go.Proofs.Try.prog 41 (f41_broughamlaw31_alive_in) (f41_broughamlaw31_alive_out r) := by
  unfold f41_broughamlaw31_alive at h
  refine At.fn (r := 0) Go.Proofs.Try.func41 rfl (by kernel_rfl) rfl rfl (by kernel_rfl) ?_
  show At Go.Proofs.Try.prog Go.Proofs.Try.f41 0 0 ⟨[], [], [], 0⟩ _
  refine At.step hm ht ⟨[], [], [], [], []⟩ 1 ⟨[], [], [], 0⟩ [] (by kernel_rfl) trivial ?_
  obtain ⟨r624_0, cr624_0, h⟩ := bindS h
  refine At.step hm ht ⟨[(0, .call [] [] (f31_sack_New_out r624_0))], [], [], [1], [0]⟩ 2 ⟨[(1, .one (.c (.ptr 0 0)))], [], [(0, [.d (.int .u32 r624_0.1), .d (.int .i64 r624_0.2), .d (.sl .unit [])])], 1⟩ [FnOK Go.Proofs.Try.prog 31 (f31_sack_New_in 5 4) (f31_sack_New_out r624_0)] (by kernel_rfl) ⟨(f31_sack_New_ok 5 4 r624_0 cr624_0), trivial⟩ ?_
  refine At.step hm ht ⟨[], [false], [], [1], [0]⟩ 4 ⟨[(1, .one (.c (.ptr 0 0)))], [], [(0, [.d (.int .u32 r624_0.1), .d (.int .i64 r624_0.2), .d (.sl .unit [])])], 1⟩ [false = false] (by kernel_rfl) ⟨rfl, trivial⟩ ?_
  obtain ⟨r626_0, cr626_0, h⟩ := bindS h
  refine At.step hm ht ⟨[(1, .call [0] [] (f33_sack_Board_Came_out r626_0))], [], [], [1, 2], [0]⟩ 5 ⟨[(1, .one (.c (.ptr 0 0))), (2, .one (.c (.d (.bool r626_0.1))))], [], [(0, [.d (.int .u32 r626_0.2.1), .d (.int .i64 r626_0.2.2.1), .d (.sl (.pair (.int .u32) (.int .u32)) r626_0.2.2.2)])], 1⟩ [FnOK Go.Proofs.Try.prog 33 (f33_sack_Board_Came_in 7 2 r624_0.1 r624_0.2) (f33_sack_Board_Came_out r626_0)] (by kernel_rfl) ⟨(f33_sack_Board_Came_ok n 7 2 r624_0.1 r624_0.2 r626_0 cr626_0), trivial⟩ ?_
  obtain ⟨r627_0, cr627_0, h⟩ := bindS h
  refine At.step hm ht ⟨[(1, .call [0] [] (f33_sack_Board_Came_v2_out r627_0))], [], [], [1, 2, 3], [0]⟩ 6 ⟨[(1, .one (.c (.ptr 0 0))), (2, .one (.c (.d (.bool r626_0.1)))), (3, .one (.c (.d (.bool r627_0.1))))], [], [(0, [.d (.int .u32 r627_0.2.1), .d (.int .i64 r627_0.2.2.1), .d (.sl (.pair (.int .u32) (.int .u32)) r627_0.2.2.2)])], 1⟩ [FnOK Go.Proofs.Try.prog 33 (f33_sack_Board_Came_v2_in 5 1 r626_0.2.1 r626_0.2.2.1 r626_0.2.2.2) (f33_sack_Board_Came_v2_out r627_0)] (by kernel_rfl) ⟨(f33_sack_Board_Came_v2_ok n 5 1 r626_0.2.1 r626_0.2.2.1 r626_0.2.2.2 r627_0 cr627_0), trivial⟩ ?_
  obtain ⟨r628_0, cr628_0, h⟩ := bindS h
  refine At.step hm ht ⟨[(1, .call [0] [] (f37_sack_Board_Blocks_out r628_0))], [], [], [1, 2, 3, 4], [0]⟩ 7 ⟨[(1, .one (.c (.ptr 0 0))), (2, .one (.c (.d (.bool r626_0.1)))), (3, .one (.c (.d (.bool r627_0.1)))), (4, .one (.c (.d (.sl (.pair (.int .u32) (.int .u32)) r628_0.1))))], [], [(0, [.d (.int .u32 r628_0.2.1), .d (.int .i64 r628_0.2.2.1), .d (.sl (.pair (.int .u32) (.int .u32)) r628_0.2.2.2)])], 1⟩ [FnOK Go.Proofs.Try.prog 37 (f37_sack_Board_Blocks_in r627_0.2.1 r627_0.2.2.1 r627_0.2.2.2) (f37_sack_Board_Blocks_out r628_0)] (by kernel_rfl) ⟨(f37_sack_Board_Blocks_ok r627_0.2.1 r627_0.2.2.1 r627_0.2.2.2 r628_0 cr628_0), trivial⟩ ?_
  obtain ⟨r629_0, cr629_0, h⟩ := bindS h
  refine At.step hm ht ⟨[(1, .call [0] [] (f34_sack_Board_Wait_out r629_0))], [], [], [1, 2, 3, 4, 5], [0]⟩ 8 ⟨[(1, .one (.c (.ptr 0 0))), (2, .one (.c (.d (.bool r626_0.1)))), (3, .one (.c (.d (.bool r627_0.1)))), (4, .one (.c (.d (.sl (.pair (.int .u32) (.int .u32)) r628_0.1)))), (5, .one (.c (.d (.int .u32 r629_0.1))))], [], [(0, [.d (.int .u32 r629_0.2.1), .d (.int .i64 r629_0.2.2.1), .d (.sl (.pair (.int .u32) (.int .u32)) r629_0.2.2.2)])], 1⟩ [FnOK Go.Proofs.Try.prog 34 (f34_sack_Board_Wait_in r628_0.2.1 r628_0.2.2.1 r628_0.2.2.2) (f34_sack_Board_Wait_out r629_0)] (by kernel_rfl) ⟨(f34_sack_Board_Wait_ok r628_0.2.1 r628_0.2.2.1 r628_0.2.2.2 r629_0 cr629_0), trivial⟩ ?_
  obtain ⟨r630_0, cr630_0, h⟩ := bindS h
  refine At.step hm ht ⟨[(1, .call [0] [] (f33_sack_Board_Came_v2_out r630_0))], [], [], [1, 2, 3, 4, 5, 6], [0]⟩ 9 ⟨[(1, .one (.c (.ptr 0 0))), (2, .one (.c (.d (.bool r626_0.1)))), (3, .one (.c (.d (.bool r627_0.1)))), (4, .one (.c (.d (.sl (.pair (.int .u32) (.int .u32)) r628_0.1)))), (5, .one (.c (.d (.int .u32 r629_0.1)))), (6, .one (.c (.d (.bool r630_0.1))))], [], [(0, [.d (.int .u32 r630_0.2.1), .d (.int .i64 r630_0.2.2.1), .d (.sl (.pair (.int .u32) (.int .u32)) r630_0.2.2.2)])], 1⟩ [FnOK Go.Proofs.Try.prog 33 (f33_sack_Board_Came_v2_in 6 1 r629_0.2.1 r629_0.2.2.1 r629_0.2.2.2) (f33_sack_Board_Came_v2_out r630_0)] (by kernel_rfl) ⟨(f33_sack_Board_Came_v2_ok n 6 1 r629_0.2.1 r629_0.2.2.1 r629_0.2.2.2 r630_0 cr630_0), trivial⟩ ?_
  rcases iteS h with ⟨b631_1, h⟩ | ⟨b631_1, h⟩
  · rcases iteS h with ⟨b631_4, h⟩ | ⟨b631_4, h⟩
    · rcases iteS h with ⟨b631_9, h⟩ | ⟨b631_9, h⟩
      · obtain ⟨g631_0, h⟩ := ifS h
        rcases iteS h with ⟨b631_16, h⟩ | ⟨b631_16, h⟩
        · rcases iteS h with ⟨b631_20, h⟩ | ⟨b631_20, h⟩
          · rcases iteS h with ⟨b631_23, h⟩ | ⟨b631_23, h⟩
            · obtain ⟨r631_1, cr631_1, h⟩ := bindS h
              rcases iteS h with ⟨b631_28, h⟩ | ⟨b631_28, h⟩
              · have h := Option.some.inj h
                subst h
                exact At.fin hm ht ⟨[(1, .b true), (4, .b true), (9, .b true), (16, .b true), (20, .b true), (23, .b true), (25, .call [0] [] (f34_sack_Board_Wait_out r631_1)), (28, .b true)], [], [], [0], []⟩ [r626_0.1 = true, r627_0.1 = true, ((((r628_0.1.length : Nat) : Int) : Int) == 1) = true, (0 : Int) ≤ 0 ∧ 0 < (((r628_0.1).length : Nat) : Int), (((((r628_0.1.getD 0 (0, 0)).1) : Int) == 7) && ((((r628_0.1.getD 0 (0, 0)).2) : Int) == 9)) = true, ((r629_0.1 : Int) == 6) = true, r630_0.1 = true, FnOK Go.Proofs.Try.prog 34 (f34_sack_Board_Wait_in r630_0.2.1 r630_0.2.2.1 r630_0.2.2.2) (f34_sack_Board_Wait_out r631_1), ((r631_1.1 : Int) == 9) = true] (by kernel_rfl) ⟨b631_1, b631_4, b631_9, g631_0, b631_16, b631_20, b631_23, (f34_sack_Board_Wait_ok r630_0.2.1 r630_0.2.2.1 r630_0.2.2.2 r631_1 cr631_1), b631_28, trivial⟩
              · have h := Option.some.inj h
                subst h
                exact At.fin hm ht ⟨[(1, .b true), (4, .b true), (9, .b true), (16, .b true), (20, .b true), (23, .b true), (25, .call [0] [] (f34_sack_Board_Wait_out r631_1)), (28, .b false)], [], [], [0], []⟩ [r626_0.1 = true, r627_0.1 = true, ((((r628_0.1.length : Nat) : Int) : Int) == 1) = true, (0 : Int) ≤ 0 ∧ 0 < (((r628_0.1).length : Nat) : Int), (((((r628_0.1.getD 0 (0, 0)).1) : Int) == 7) && ((((r628_0.1.getD 0 (0, 0)).2) : Int) == 9)) = true, ((r629_0.1 : Int) == 6) = true, r630_0.1 = true, FnOK Go.Proofs.Try.prog 34 (f34_sack_Board_Wait_in r630_0.2.1 r630_0.2.2.1 r630_0.2.2.2) (f34_sack_Board_Wait_out r631_1), ((r631_1.1 : Int) == 9) = false] (by kernel_rfl) ⟨b631_1, b631_4, b631_9, g631_0, b631_16, b631_20, b631_23, (f34_sack_Board_Wait_ok r630_0.2.1 r630_0.2.2.1 r630_0.2.2.2 r631_1 cr631_1), b631_28, trivial⟩
            · have h := Option.some.inj h
              subst h
              exact At.fin hm ht ⟨[(1, .b true), (4, .b true), (9, .b true), (16, .b true), (20, .b true), (23, .b false)], [], [], [0], []⟩ [r626_0.1 = true, r627_0.1 = true, ((((r628_0.1.length : Nat) : Int) : Int) == 1) = true, (0 : Int) ≤ 0 ∧ 0 < (((r628_0.1).length : Nat) : Int), (((((r628_0.1.getD 0 (0, 0)).1) : Int) == 7) && ((((r628_0.1.getD 0 (0, 0)).2) : Int) == 9)) = true, ((r629_0.1 : Int) == 6) = true, r630_0.1 = false] (by kernel_rfl) ⟨b631_1, b631_4, b631_9, g631_0, b631_16, b631_20, b631_23, trivial⟩
          · have h := Option.some.inj h
            subst h
            exact At.fin hm ht ⟨[(1, .b true), (4, .b true), (9, .b true), (16, .b true), (20, .b false)], [], [], [0], []⟩ [r626_0.1 = true, r627_0.1 = true, ((((r628_0.1.length : Nat) : Int) : Int) == 1) = true, (0 : Int) ≤ 0 ∧ 0 < (((r628_0.1).length : Nat) : Int), (((((r628_0.1.getD 0 (0, 0)).1) : Int) == 7) && ((((r628_0.1.getD 0 (0, 0)).2) : Int) == 9)) = true, ((r629_0.1 : Int) == 6) = false] (by kernel_rfl) ⟨b631_1, b631_4, b631_9, g631_0, b631_16, b631_20, trivial⟩
        · have h := Option.some.inj h
          subst h
          exact At.fin hm ht ⟨[(1, .b true), (4, .b true), (9, .b true), (16, .b false)], [], [], [0], []⟩ [r626_0.1 = true, r627_0.1 = true, ((((r628_0.1.length : Nat) : Int) : Int) == 1) = true, (0 : Int) ≤ 0 ∧ 0 < (((r628_0.1).length : Nat) : Int), (((((r628_0.1.getD 0 (0, 0)).1) : Int) == 7) && ((((r628_0.1.getD 0 (0, 0)).2) : Int) == 9)) = false] (by kernel_rfl) ⟨b631_1, b631_4, b631_9, g631_0, b631_16, trivial⟩
      · have h := Option.some.inj h
        subst h
        exact At.fin hm ht ⟨[(1, .b true), (4, .b true), (9, .b false)], [], [], [0], []⟩ [r626_0.1 = true, r627_0.1 = true, ((((r628_0.1.length : Nat) : Int) : Int) == 1) = false] (by kernel_rfl) ⟨b631_1, b631_4, b631_9, trivial⟩
    · have h := Option.some.inj h
      subst h
      exact At.fin hm ht ⟨[(1, .b true), (4, .b false)], [], [], [0], []⟩ [r626_0.1 = true, r627_0.1 = false] (by kernel_rfl) ⟨b631_1, b631_4, trivial⟩
  · have h := Option.some.inj h
    subst h
    exact At.fin hm ht ⟨[(1, .b false)], [], [], [0], []⟩ [r626_0.1 = false] (by kernel_rfl) ⟨b631_1, trivial⟩
/-! brougham/broughamlaw31.SackPlays -/
def f7_broughamlaw31_SackPlays_in (wait : Int) (most : Int) (l : List (Int × Int)) : Inn := ⟨[.c (.d (.int .u32 wait)), .c (.d (.int .i64 most)), .c (.d (.sl (.pair (.int .u32) (.int .i64)) l))], [], [], 0⟩
def f7_broughamlaw31_SackPlays_out (r : Bool) : Out := ⟨.one (.c (.d (.bool r))), [], [], 0⟩
def f7_broughamlaw31_SackPlays_L13 : Nat → Int → (List (Int × Int)) → Int → Int → Int → (List (Int × Int)) → Int → Int → (List (Int × Int)) → Option ((Bool) ⊕ (Int × Int × (List (Int × Int)) × Int × Int × List (Int × Int)))
  | 0, _, _, _, _, _, _, _, _, _ => none
  | n + 1, wait, l, i, x_0, x_1, x_2, r__0, r__1, r__2 =>
    if (decide ((i : Int) < ((l.length : Nat) : Int))) = true then
      if (0 : Int) ≤ i ∧ i < (((l).length : Nat) : Int) then
      if (0 : Int) ≤ i ∧ i < (((l).length : Nat) : Int) then
      (f32_broughamref31_Came n r__0 r__1 r__2 (IntKind.wrap .u32 (wait + ((l.getD i.toNat (0, 0)).1))) ((l.getD i.toNat (0, 0)).2)).bind fun r367_2 =>
      if (0 : Int) ≤ i ∧ i < (((l).length : Nat) : Int) then
      if (0 : Int) ≤ i ∧ i < (((l).length : Nat) : Int) then
      (f33_sack_Board_Came_v2 n (IntKind.wrap .u32 (wait + ((l.getD i.toNat (0, 0)).1))) ((l.getD i.toNat (0, 0)).2) x_0 x_1 x_2).bind fun r368_2 =>
      if (!(r368_2.1 == r367_2.1)) = true then
        some (.inl false)
      else
        (f34_sack_Board_Wait r368_2.2.1 r368_2.2.2.1 r368_2.2.2.2).bind fun r368_3 =>
        if ((r368_3.1 : Int) != r367_2.2.1) = true then
          some (.inl false)
        else
          (f37_sack_Board_Blocks r368_3.2.1 r368_3.2.2.1 r368_3.2.2.2).bind fun r368_4 =>
          (f36_broughamlaw31_plain n r368_4.1).bind fun r368_5 =>
          (f38_broughamref31_Blocks n r367_2.2.1 r367_2.2.2.1 r367_2.2.2.2).bind fun r368_6 =>
          (f35_broughamlaw31_same n r368_5 r368_6).bind fun r368_7 =>
          if (!r368_7) = true then
            some (.inl false)
          else
            f7_broughamlaw31_SackPlays_L13 n wait l (IntKind.wrap .i64 (i + 1)) r368_4.2.1 r368_4.2.2.1 r368_4.2.2.2 r367_2.2.1 r367_2.2.2.1 r367_2.2.2.2
      else none
      else none
      else none
      else none
    else
      some (.inr ((x_0, x_1, x_2, r__0, r__1, r__2)))
def f7_broughamlaw31_SackPlays_L13_k (w : (Bool) ⊕ (Int × Int × (List (Int × Int)) × Int × Int × List (Int × Int))) (o : Out) : Prop := match w with
  | .inl e => o = f7_broughamlaw31_SackPlays_out e
  | .inr e => At Go.Proofs.Try.prog Go.Proofs.Try.f7 0 19 ⟨[(7, .one (.c (.ptr 0 0))), (9, .one (.c (.ptr 1 0)))], [], [(0, [.d (.int .u32 e.1), .d (.int .i64 e.2.1), .d (.sl (.pair (.int .u32) (.int .u32)) e.2.2.1)]), (1, [.d (.int .u32 e.2.2.2.1), .d (.int .i64 e.2.2.2.2.1), .d (.sl (.pair (.int .u64) (.int .u64)) e.2.2.2.2.2)])], 2⟩ o
theorem f7_broughamlaw31_SackPlays_L13_ok (n : Nat) : ∀ (wait : Int) (l : List (Int × Int)) (i : Int) (x_0 : Int) (x_1 : Int) (x_2 : List (Int × Int)) (r__0 : Int) (r__1 : Int) (r__2 : List (Int × Int)) (w : (Bool) ⊕ (Int × Int × (List (Int × Int)) × Int × Int × List (Int × Int))) (h : f7_broughamlaw31_SackPlays_L13 n wait l i x_0 x_1 x_2 r__0 r__1 r__2 = some w) (o : Out) (hk : f7_broughamlaw31_SackPlays_L13_k w o), At Go.Proofs.Try.prog Go.Proofs.Try.f7 0 13 ⟨[(0, .one (.c (.d (.int .u32 wait)))), (2, .one (.c (.d (.sl (.pair (.int .u32) (.int .i64)) l)))), (7, .one (.c (.ptr 0 0))), (9, .one (.c (.ptr 1 0))), (10, .one (.c (.d (.int .i64 i))))], [], [(0, [.d (.int .u32 x_0), .d (.int .i64 x_1), .d (.sl (.pair (.int .u32) (.int .u32)) x_2)]), (1, [.d (.int .u32 r__0), .d (.int .i64 r__1), .d (.sl (.pair (.int .u64) (.int .u64)) r__2)])], 2⟩ o := by
  induction n with
  | zero => intro wait l i x_0 x_1 x_2 r__0 r__1 r__2 w h; rw [f7_broughamlaw31_SackPlays_L13] at h; cases h
  | succ n ih =>
    intro wait l i x_0 x_1 x_2 r__0 r__1 r__2 w h o hk
    rw [f7_broughamlaw31_SackPlays_L13] at h
    rcases iteS h with ⟨b365_e0, h⟩ | ⟨b365_e0, h⟩
    · refine At.step hm ht ⟨[], [true], [], [0, 2, 7, 9, 10], [0, 1]⟩ 15 ⟨[(0, .one (.c (.d (.int .u32 wait)))), (2, .one (.c (.d (.sl (.pair (.int .u32) (.int .i64)) l)))), (7, .one (.c (.ptr 0 0))), (9, .one (.c (.ptr 1 0))), (10, .one (.c (.d (.int .i64 i))))], [], [(0, [.d (.int .u32 x_0), .d (.int .i64 x_1), .d (.sl (.pair (.int .u32) (.int .u32)) x_2)]), (1, [.d (.int .u32 r__0), .d (.int .i64 r__1), .d (.sl (.pair (.int .u64) (.int .u64)) r__2)])], 2⟩ [(decide ((i : Int) < ((l.length : Nat) : Int))) = true] (by kernel_rfl) ⟨b365_e0, trivial⟩ ?_
      refine At.step hm ht ⟨[], [], [], [0, 2, 7, 9, 10], [0, 1]⟩ 16 ⟨[(0, .one (.c (.d (.int .u32 wait)))), (2, .one (.c (.d (.sl (.pair (.int .u32) (.int .i64)) l)))), (7, .one (.c (.ptr 0 0))), (9, .one (.c (.ptr 1 0))), (10, .one (.c (.d (.int .i64 i))))], [], [(0, [.d (.int .u32 x_0), .d (.int .i64 x_1), .d (.sl (.pair (.int .u32) (.int .u32)) x_2)]), (1, [.d (.int .u32 r__0), .d (.int .i64 r__1), .d (.sl (.pair (.int .u64) (.int .u64)) r__2)])], 2⟩ [] (by kernel_rfl) trivial ?_
      obtain ⟨g367_0, h⟩ := ifS h
      obtain ⟨g367_1, h⟩ := ifS h
      obtain ⟨r367_2, cr367_2, h⟩ := bindS h
      refine At.step hm ht ⟨[(13, .call [] [] (f32_broughamref31_Came_out r367_2))], [], [], [0, 2, 7, 9, 10, 11], [0, 1]⟩ 17 ⟨[(0, .one (.c (.d (.int .u32 wait)))), (2, .one (.c (.d (.sl (.pair (.int .u32) (.int .i64)) l)))), (7, .one (.c (.ptr 0 0))), (9, .one (.c (.ptr 1 0))), (10, .one (.c (.d (.int .i64 i)))), (11, .one (.c (.d (.bool r367_2.1))))], [], [(0, [.d (.int .u32 x_0), .d (.int .i64 x_1), .d (.sl (.pair (.int .u32) (.int .u32)) x_2)]), (1, [.d (.int .u32 r367_2.2.1), .d (.int .i64 r367_2.2.2.1), .d (.sl (.pair (.int .u64) (.int .u64)) r367_2.2.2.2)])], 2⟩ [(0 : Int) ≤ i ∧ i < (((l).length : Nat) : Int), (0 : Int) ≤ i ∧ i < (((l).length : Nat) : Int), FnOK Go.Proofs.Try.prog 32 (f32_broughamref31_Came_in r__0 r__1 r__2 (IntKind.wrap .u32 (wait + ((l.getD i.toNat (0, 0)).1))) ((l.getD i.toNat (0, 0)).2)) (f32_broughamref31_Came_out r367_2), 0 + 3 ≤ 3] (by kernel_rfl) ⟨g367_0, g367_1, (f32_broughamref31_Came_ok n r__0 r__1 r__2 (IntKind.wrap .u32 (wait + ((l.getD i.toNat (0, 0)).1))) ((l.getD i.toNat (0, 0)).2) r367_2 cr367_2), (by decide), trivial⟩ ?_
      obtain ⟨g368_0, h⟩ := ifS h
      obtain ⟨g368_1, h⟩ := ifS h
      obtain ⟨r368_2, cr368_2, h⟩ := bindS h
      rcases iteS h with ⟨b368_16, h⟩ | ⟨b368_16, h⟩
      · refine At.step hm ht ⟨[(13, .call [0] [] (f33_sack_Board_Came_v2_out r368_2)), (16, .b true)], [true], [], [], []⟩ 18 ⟨[], [], [], 0⟩ [(0 : Int) ≤ i ∧ i < (((l).length : Nat) : Int), (0 : Int) ≤ i ∧ i < (((l).length : Nat) : Int), FnOK Go.Proofs.Try.prog 33 (f33_sack_Board_Came_v2_in (IntKind.wrap .u32 (wait + ((l.getD i.toNat (0, 0)).1))) ((l.getD i.toNat (0, 0)).2) x_0 x_1 x_2) (f33_sack_Board_Came_v2_out r368_2), (!(r368_2.1 == r367_2.1)) = true, true = true] (by kernel_rfl) ⟨g368_0, g368_1, (f33_sack_Board_Came_v2_ok n (IntKind.wrap .u32 (wait + ((l.getD i.toNat (0, 0)).1))) ((l.getD i.toNat (0, 0)).2) x_0 x_1 x_2 r368_2 cr368_2), b368_16, rfl, trivial⟩ ?_
        have h := Option.some.inj h
        subst h
        have hk : o = f7_broughamlaw31_SackPlays_out false := hk
        subst hk
        exact At.fin hm ht ⟨[], [], [], [6], []⟩ [] (by kernel_rfl) trivial
      · obtain ⟨r368_3, cr368_3, h⟩ := bindS h
        rcases iteS h with ⟨b368_23, h⟩ | ⟨b368_23, h⟩
        · refine At.step hm ht ⟨[(13, .call [0] [] (f33_sack_Board_Came_v2_out r368_2)), (16, .b false), (18, .call [0] [] (f34_sack_Board_Wait_out r368_3)), (23, .b true)], [true], [], [], []⟩ 18 ⟨[], [], [], 0⟩ [(0 : Int) ≤ i ∧ i < (((l).length : Nat) : Int), (0 : Int) ≤ i ∧ i < (((l).length : Nat) : Int), FnOK Go.Proofs.Try.prog 33 (f33_sack_Board_Came_v2_in (IntKind.wrap .u32 (wait + ((l.getD i.toNat (0, 0)).1))) ((l.getD i.toNat (0, 0)).2) x_0 x_1 x_2) (f33_sack_Board_Came_v2_out r368_2), (!(r368_2.1 == r367_2.1)) = false, FnOK Go.Proofs.Try.prog 34 (f34_sack_Board_Wait_in r368_2.2.1 r368_2.2.2.1 r368_2.2.2.2) (f34_sack_Board_Wait_out r368_3), ((r368_3.1 : Int) != r367_2.2.1) = true, true = true] (by kernel_rfl) ⟨g368_0, g368_1, (f33_sack_Board_Came_v2_ok n (IntKind.wrap .u32 (wait + ((l.getD i.toNat (0, 0)).1))) ((l.getD i.toNat (0, 0)).2) x_0 x_1 x_2 r368_2 cr368_2), b368_16, (f34_sack_Board_Wait_ok r368_2.2.1 r368_2.2.2.1 r368_2.2.2.2 r368_3 cr368_3), b368_23, rfl, trivial⟩ ?_
          have h := Option.some.inj h
          subst h
          have hk : o = f7_broughamlaw31_SackPlays_out false := hk
          subst hk
          exact At.fin hm ht ⟨[], [], [], [6], []⟩ [] (by kernel_rfl) trivial
        · obtain ⟨r368_4, cr368_4, h⟩ := bindS h
          obtain ⟨r368_5, cr368_5, h⟩ := bindS h
          obtain ⟨r368_6, cr368_6, h⟩ := bindS h
          obtain ⟨r368_7, cr368_7, h⟩ := bindS h
          rcases iteS h with ⟨b368_e0, h⟩ | ⟨b368_e0, h⟩
          · refine At.step hm ht ⟨[(13, .call [0] [] (f33_sack_Board_Came_v2_out r368_2)), (16, .b false), (18, .call [0] [] (f34_sack_Board_Wait_out r368_3)), (23, .b false), (25, .call [0] [] (f37_sack_Board_Blocks_out r368_4)), (26, .call [] [] (f36_broughamlaw31_plain_out r368_5)), (28, .call [] [] (f38_broughamref31_Blocks_out r368_6)), (29, .call [] [] (f35_broughamlaw31_same_out r368_7))], [true], [], [], []⟩ 18 ⟨[], [], [], 0⟩ [(0 : Int) ≤ i ∧ i < (((l).length : Nat) : Int), (0 : Int) ≤ i ∧ i < (((l).length : Nat) : Int), FnOK Go.Proofs.Try.prog 33 (f33_sack_Board_Came_v2_in (IntKind.wrap .u32 (wait + ((l.getD i.toNat (0, 0)).1))) ((l.getD i.toNat (0, 0)).2) x_0 x_1 x_2) (f33_sack_Board_Came_v2_out r368_2), (!(r368_2.1 == r367_2.1)) = false, FnOK Go.Proofs.Try.prog 34 (f34_sack_Board_Wait_in r368_2.2.1 r368_2.2.2.1 r368_2.2.2.2) (f34_sack_Board_Wait_out r368_3), ((r368_3.1 : Int) != r367_2.2.1) = false, FnOK Go.Proofs.Try.prog 37 (f37_sack_Board_Blocks_in r368_3.2.1 r368_3.2.2.1 r368_3.2.2.2) (f37_sack_Board_Blocks_out r368_4), FnOK Go.Proofs.Try.prog 36 (f36_broughamlaw31_plain_in r368_4.1) (f36_broughamlaw31_plain_out r368_5), FnOK Go.Proofs.Try.prog 38 (f38_broughamref31_Blocks_in r367_2.2.1 r367_2.2.2.1 r367_2.2.2.2) (f38_broughamref31_Blocks_out r368_6), FnOK Go.Proofs.Try.prog 35 (f35_broughamlaw31_same_in r368_5 r368_6) (f35_broughamlaw31_same_out r368_7), (!r368_7) = true] (by kernel_rfl) ⟨g368_0, g368_1, (f33_sack_Board_Came_v2_ok n (IntKind.wrap .u32 (wait + ((l.getD i.toNat (0, 0)).1))) ((l.getD i.toNat (0, 0)).2) x_0 x_1 x_2 r368_2 cr368_2), b368_16, (f34_sack_Board_Wait_ok r368_2.2.1 r368_2.2.2.1 r368_2.2.2.2 r368_3 cr368_3), b368_23, (f37_sack_Board_Blocks_ok r368_3.2.1 r368_3.2.2.1 r368_3.2.2.2 r368_4 cr368_4), (f36_broughamlaw31_plain_ok n r368_4.1 r368_5 cr368_5), (f38_broughamref31_Blocks_ok n r367_2.2.1 r367_2.2.2.1 r367_2.2.2.2 r368_6 cr368_6), (f35_broughamlaw31_same_ok n r368_5 r368_6 r368_7 cr368_7), b368_e0, trivial⟩ ?_
            have h := Option.some.inj h
            subst h
            have hk : o = f7_broughamlaw31_SackPlays_out false := hk
            subst hk
            exact At.fin hm ht ⟨[], [], [], [6], []⟩ [] (by kernel_rfl) trivial
          · refine At.step hm ht ⟨[(13, .call [0] [] (f33_sack_Board_Came_v2_out r368_2)), (16, .b false), (18, .call [0] [] (f34_sack_Board_Wait_out r368_3)), (23, .b false), (25, .call [0] [] (f37_sack_Board_Blocks_out r368_4)), (26, .call [] [] (f36_broughamlaw31_plain_out r368_5)), (28, .call [] [] (f38_broughamref31_Blocks_out r368_6)), (29, .call [] [] (f35_broughamlaw31_same_out r368_7))], [false], [], [0, 2, 7, 9, 10], [0, 1]⟩ 14 ⟨[(0, .one (.c (.d (.int .u32 wait)))), (2, .one (.c (.d (.sl (.pair (.int .u32) (.int .i64)) l)))), (7, .one (.c (.ptr 0 0))), (9, .one (.c (.ptr 1 0))), (10, .one (.c (.d (.int .i64 i))))], [], [(0, [.d (.int .u32 r368_4.2.1), .d (.int .i64 r368_4.2.2.1), .d (.sl (.pair (.int .u32) (.int .u32)) r368_4.2.2.2)]), (1, [.d (.int .u32 r367_2.2.1), .d (.int .i64 r367_2.2.2.1), .d (.sl (.pair (.int .u64) (.int .u64)) r367_2.2.2.2)])], 2⟩ [(0 : Int) ≤ i ∧ i < (((l).length : Nat) : Int), (0 : Int) ≤ i ∧ i < (((l).length : Nat) : Int), FnOK Go.Proofs.Try.prog 33 (f33_sack_Board_Came_v2_in (IntKind.wrap .u32 (wait + ((l.getD i.toNat (0, 0)).1))) ((l.getD i.toNat (0, 0)).2) x_0 x_1 x_2) (f33_sack_Board_Came_v2_out r368_2), (!(r368_2.1 == r367_2.1)) = false, FnOK Go.Proofs.Try.prog 34 (f34_sack_Board_Wait_in r368_2.2.1 r368_2.2.2.1 r368_2.2.2.2) (f34_sack_Board_Wait_out r368_3), ((r368_3.1 : Int) != r367_2.2.1) = false, FnOK Go.Proofs.Try.prog 37 (f37_sack_Board_Blocks_in r368_3.2.1 r368_3.2.2.1 r368_3.2.2.2) (f37_sack_Board_Blocks_out r368_4), FnOK Go.Proofs.Try.prog 36 (f36_broughamlaw31_plain_in r368_4.1) (f36_broughamlaw31_plain_out r368_5), FnOK Go.Proofs.Try.prog 38 (f38_broughamref31_Blocks_in r367_2.2.1 r367_2.2.2.1 r367_2.2.2.2) (f38_broughamref31_Blocks_out r368_6), FnOK Go.Proofs.Try.prog 35 (f35_broughamlaw31_same_in r368_5 r368_6) (f35_broughamlaw31_same_out r368_7), (!r368_7) = false] (by kernel_rfl) ⟨g368_0, g368_1, (f33_sack_Board_Came_v2_ok n (IntKind.wrap .u32 (wait + ((l.getD i.toNat (0, 0)).1))) ((l.getD i.toNat (0, 0)).2) x_0 x_1 x_2 r368_2 cr368_2), b368_16, (f34_sack_Board_Wait_ok r368_2.2.1 r368_2.2.2.1 r368_2.2.2.2 r368_3 cr368_3), b368_23, (f37_sack_Board_Blocks_ok r368_3.2.1 r368_3.2.2.1 r368_3.2.2.2 r368_4 cr368_4), (f36_broughamlaw31_plain_ok n r368_4.1 r368_5 cr368_5), (f38_broughamref31_Blocks_ok n r367_2.2.1 r367_2.2.2.1 r367_2.2.2.2 r368_6 cr368_6), (f35_broughamlaw31_same_ok n r368_5 r368_6 r368_7 cr368_7), b368_e0, trivial⟩ ?_
            refine At.step hm ht ⟨[], [], [], [0, 2, 7, 9, 10], [0, 1]⟩ 13 ⟨[(0, .one (.c (.d (.int .u32 wait)))), (2, .one (.c (.d (.sl (.pair (.int .u32) (.int .i64)) l)))), (7, .one (.c (.ptr 0 0))), (9, .one (.c (.ptr 1 0))), (10, .one (.c (.d (.int .i64 (IntKind.wrap .i64 (i + 1))))))], [], [(0, [.d (.int .u32 r368_4.2.1), .d (.int .i64 r368_4.2.2.1), .d (.sl (.pair (.int .u32) (.int .u32)) r368_4.2.2.2)]), (1, [.d (.int .u32 r367_2.2.1), .d (.int .i64 r367_2.2.2.1), .d (.sl (.pair (.int .u64) (.int .u64)) r367_2.2.2.2)])], 2⟩ [] (by kernel_rfl) trivial ?_
            exact ih wait l (IntKind.wrap .i64 (i + 1)) r368_4.2.1 r368_4.2.2.1 r368_4.2.2.2 r367_2.2.1 r367_2.2.2.1 r367_2.2.2.2 w h o hk
    · refine At.step hm ht ⟨[], [false], [], [7, 9], [0, 1]⟩ 19 ⟨[(7, .one (.c (.ptr 0 0))), (9, .one (.c (.ptr 1 0)))], [], [(0, [.d (.int .u32 x_0), .d (.int .i64 x_1), .d (.sl (.pair (.int .u32) (.int .u32)) x_2)]), (1, [.d (.int .u32 r__0), .d (.int .i64 r__1), .d (.sl (.pair (.int .u64) (.int .u64)) r__2)])], 2⟩ [(decide ((i : Int) < ((l.length : Nat) : Int))) = false] (by kernel_rfl) ⟨b365_e0, trivial⟩ ?_
      have h := Option.some.inj h
      subst h
      exact hk
def f7_broughamlaw31_SackPlays (n : Nat) (wait : Int) (most : Int) (l : List (Int × Int)) : Option (Bool) :=
  if (decide ((((l.length : Nat) : Int) : Int) > 100)) = true then
    some true
  else
    (f31_sack_New wait most).bind fun r356_0 =>
    if (decide ((most : Int) < 1)) = true then
      if (decide ((1 : Int) > 64)) = true then
        (f7_broughamlaw31_SackPlays_L13 n wait l 0 r356_0.1 r356_0.2 [] wait 64 []).bind fun w450 =>
        match w450 with
        | .inl e451 =>
          some e451
        | .inr e452 =>
          (f38_broughamref31_Blocks n e452.2.2.2.1 e452.2.2.2.2.1 e452.2.2.2.2.2).bind fun r453_0 =>
          if (decide ((((r453_0.length : Nat) : Int) : Int) > 4)) = true then
            if cutOk r453_0.length none (some 4) none then
            (f39_sack_Board_Say n e452.1 e452.2.1 e452.2.2.1).bind fun r456_0 =>
            (f40_broughamref31_Option n e452.2.2.2.1 (r453_0.take 4)).bind fun r538_0 =>
            if (r456_0.1 == r538_0.2) = true then
              if ((strOfNums r456_0.2.2.2.2.2).toList == (strOfNums r538_0.1).toList) = true then
                (f41_broughamlaw31_alive n).bind fun r622_0 =>
                some r622_0
              else
                some false
            else
              some false
            else none
          else
            (f39_sack_Board_Say n e452.1 e452.2.1 e452.2.2.1).bind fun r632_0 =>
            (f40_broughamref31_Option n e452.2.2.2.1 r453_0).bind fun r633_0 =>
            if (r632_0.1 == r633_0.2) = true then
              if ((strOfNums r632_0.2.2.2.2.2).toList == (strOfNums r633_0.1).toList) = true then
                (f41_broughamlaw31_alive n).bind fun r634_0 =>
                some r634_0
              else
                some false
            else
              some false
      else
        (f7_broughamlaw31_SackPlays_L13 n wait l 0 r356_0.1 r356_0.2 [] wait 1 []).bind fun w637 =>
        match w637 with
        | .inl e638 =>
          some e638
        | .inr e639 =>
          (f38_broughamref31_Blocks n e639.2.2.2.1 e639.2.2.2.2.1 e639.2.2.2.2.2).bind fun r640_0 =>
          if (decide ((((r640_0.length : Nat) : Int) : Int) > 4)) = true then
            if cutOk r640_0.length none (some 4) none then
            (f39_sack_Board_Say n e639.1 e639.2.1 e639.2.2.1).bind fun r643_0 =>
            (f40_broughamref31_Option n e639.2.2.2.1 (r640_0.take 4)).bind fun r644_0 =>
            if (r643_0.1 == r644_0.2) = true then
              if ((strOfNums r643_0.2.2.2.2.2).toList == (strOfNums r644_0.1).toList) = true then
                (f41_broughamlaw31_alive n).bind fun r645_0 =>
                some r645_0
              else
                some false
            else
              some false
            else none
          else
            (f39_sack_Board_Say n e639.1 e639.2.1 e639.2.2.1).bind fun r646_0 =>
            (f40_broughamref31_Option n e639.2.2.2.1 r640_0).bind fun r647_0 =>
            if (r646_0.1 == r647_0.2) = true then
              if ((strOfNums r646_0.2.2.2.2.2).toList == (strOfNums r647_0.1).toList) = true then
                (f41_broughamlaw31_alive n).bind fun r648_0 =>
                some r648_0
              else
                some false
            else
              some false
    else
      if (decide ((most : Int) > 64)) = true then
        (f7_broughamlaw31_SackPlays_L13 n wait l 0 r356_0.1 r356_0.2 [] wait 64 []).bind fun w653 =>
        match w653 with
        | .inl e654 =>
          some e654
        | .inr e655 =>
          (f38_broughamref31_Blocks n e655.2.2.2.1 e655.2.2.2.2.1 e655.2.2.2.2.2).bind fun r656_0 =>
          if (decide ((((r656_0.length : Nat) : Int) : Int) > 4)) = true then
            if cutOk r656_0.length none (some 4) none then
            (f39_sack_Board_Say n e655.1 e655.2.1 e655.2.2.1).bind fun r659_0 =>
            (f40_broughamref31_Option n e655.2.2.2.1 (r656_0.take 4)).bind fun r660_0 =>
            if (r659_0.1 == r660_0.2) = true then
              if ((strOfNums r659_0.2.2.2.2.2).toList == (strOfNums r660_0.1).toList) = true then
                (f41_broughamlaw31_alive n).bind fun r661_0 =>
                some r661_0
              else
                some false
            else
              some false
            else none
          else
            (f39_sack_Board_Say n e655.1 e655.2.1 e655.2.2.1).bind fun r662_0 =>
            (f40_broughamref31_Option n e655.2.2.2.1 r656_0).bind fun r663_0 =>
            if (r662_0.1 == r663_0.2) = true then
              if ((strOfNums r662_0.2.2.2.2.2).toList == (strOfNums r663_0.1).toList) = true then
                (f41_broughamlaw31_alive n).bind fun r664_0 =>
                some r664_0
              else
                some false
            else
              some false
      else
        (f7_broughamlaw31_SackPlays_L13 n wait l 0 r356_0.1 r356_0.2 [] wait most []).bind fun w667 =>
        match w667 with
        | .inl e668 =>
          some e668
        | .inr e669 =>
          (f38_broughamref31_Blocks n e669.2.2.2.1 e669.2.2.2.2.1 e669.2.2.2.2.2).bind fun r670_0 =>
          if (decide ((((r670_0.length : Nat) : Int) : Int) > 4)) = true then
            if cutOk r670_0.length none (some 4) none then
            (f39_sack_Board_Say n e669.1 e669.2.1 e669.2.2.1).bind fun r673_0 =>
            (f40_broughamref31_Option n e669.2.2.2.1 (r670_0.take 4)).bind fun r674_0 =>
            if (r673_0.1 == r674_0.2) = true then
              if ((strOfNums r673_0.2.2.2.2.2).toList == (strOfNums r674_0.1).toList) = true then
                (f41_broughamlaw31_alive n).bind fun r675_0 =>
                some r675_0
              else
                some false
            else
              some false
            else none
          else
            (f39_sack_Board_Say n e669.1 e669.2.1 e669.2.2.1).bind fun r676_0 =>
            (f40_broughamref31_Option n e669.2.2.2.1 r670_0).bind fun r677_0 =>
            if (r676_0.1 == r677_0.2) = true then
              if ((strOfNums r676_0.2.2.2.2.2).toList == (strOfNums r677_0.1).toList) = true then
                (f41_broughamlaw31_alive n).bind fun r678_0 =>
                some r678_0
              else
                some false
            else
              some false
theorem f7_broughamlaw31_SackPlays_ok (n : Nat) (wait : Int) (most : Int) (l : List (Int × Int)) (r : Bool) (h : f7_broughamlaw31_SackPlays n wait most l = some r) : FnOK Go.Proofs.Try.prog 7 (f7_broughamlaw31_SackPlays_in wait most l) (f7_broughamlaw31_SackPlays_out r) := by
  unfold f7_broughamlaw31_SackPlays at h
  refine At.fn (r := 0) Go.Proofs.Try.func7 rfl (by kernel_rfl) rfl rfl (by kernel_rfl) ?_
  show At Go.Proofs.Try.prog Go.Proofs.Try.f7 0 0 ⟨[(0, .one (.c (.d (.int .u32 wait)))), (1, .one (.c (.d (.int .i64 most)))), (2, .one (.c (.d (.sl (.pair (.int .u32) (.int .i64)) l))))], [], [], 0⟩ _
  refine At.step hm ht ⟨[], [], [], [0, 1, 2], []⟩ 1 ⟨[(0, .one (.c (.d (.int .u32 wait)))), (1, .one (.c (.d (.int .i64 most)))), (2, .one (.c (.d (.sl (.pair (.int .u32) (.int .i64)) l))))], [], [], 0⟩ [] (by kernel_rfl) trivial ?_
  rcases iteS h with ⟨b354_e0, h⟩ | ⟨b354_e0, h⟩
  · refine At.step hm ht ⟨[], [true], [], [], []⟩ 2 ⟨[], [], [], 0⟩ [(decide ((((l.length : Nat) : Int) : Int) > 100)) = true] (by kernel_rfl) ⟨b354_e0, trivial⟩ ?_
    have h := Option.some.inj h
    subst h
    exact At.fin hm ht ⟨[], [], [], [6], []⟩ [] (by kernel_rfl) trivial
  · refine At.step hm ht ⟨[], [false], [], [0, 1, 2], []⟩ 3 ⟨[(0, .one (.c (.d (.int .u32 wait)))), (1, .one (.c (.d (.int .i64 most)))), (2, .one (.c (.d (.sl (.pair (.int .u32) (.int .i64)) l))))], [], [], 0⟩ [(decide ((((l.length : Nat) : Int) : Int) > 100)) = false] (by kernel_rfl) ⟨b354_e0, trivial⟩ ?_
    obtain ⟨r356_0, cr356_0, h⟩ := bindS h
    refine At.step hm ht ⟨[(2, .call [] [] (f31_sack_New_out r356_0))], [], [], [0, 1, 2, 7], [2]⟩ 4 ⟨[(0, .one (.c (.d (.int .u32 wait)))), (1, .one (.c (.d (.int .i64 most)))), (2, .one (.c (.d (.sl (.pair (.int .u32) (.int .i64)) l)))), (7, .one (.c (.ptr 0 0)))], [], [(0, [.d (.int .u32 r356_0.1), .d (.int .i64 r356_0.2), .d (.sl .unit [])])], 1⟩ [FnOK Go.Proofs.Try.prog 31 (f31_sack_New_in wait most) (f31_sack_New_out r356_0)] (by kernel_rfl) ⟨(f31_sack_New_ok wait most r356_0 cr356_0), trivial⟩ ?_
    refine At.step hm ht ⟨[], [false], [], [0, 1, 2, 7], [0]⟩ 6 ⟨[(0, .one (.c (.d (.int .u32 wait)))), (1, .one (.c (.d (.int .i64 most)))), (2, .one (.c (.d (.sl (.pair (.int .u32) (.int .i64)) l)))), (7, .one (.c (.ptr 0 0)))], [], [(0, [.d (.int .u32 r356_0.1), .d (.int .i64 r356_0.2), .d (.sl .unit [])])], 1⟩ [false = false] (by kernel_rfl) ⟨rfl, trivial⟩ ?_
    refine At.step hm ht ⟨[], [], [], [0, 2, 7, 8], [0]⟩ 7 ⟨[(0, .one (.c (.d (.int .u32 wait)))), (2, .one (.c (.d (.sl (.pair (.int .u32) (.int .i64)) l)))), (7, .one (.c (.ptr 0 0))), (8, .one (.c (.d (.int .i64 most))))], [], [(0, [.d (.int .u32 r356_0.1), .d (.int .i64 r356_0.2), .d (.sl .unit [])])], 1⟩ [] (by kernel_rfl) trivial ?_
    rcases iteS h with ⟨b359_e0, h⟩ | ⟨b359_e0, h⟩
    · refine At.step hm ht ⟨[], [true], [], [0, 2, 7], [0]⟩ 8 ⟨[(0, .one (.c (.d (.int .u32 wait)))), (2, .one (.c (.d (.sl (.pair (.int .u32) (.int .i64)) l)))), (7, .one (.c (.ptr 0 0)))], [], [(0, [.d (.int .u32 r356_0.1), .d (.int .i64 r356_0.2), .d (.sl .unit [])])], 1⟩ [(decide ((most : Int) < 1)) = true] (by kernel_rfl) ⟨b359_e0, trivial⟩ ?_
      refine At.step hm ht ⟨[], [], [], [0, 2, 7, 8], [0]⟩ 9 ⟨[(0, .one (.c (.d (.int .u32 wait)))), (2, .one (.c (.d (.sl (.pair (.int .u32) (.int .i64)) l)))), (7, .one (.c (.ptr 0 0))), (8, .one (.c (.d (.int .i64 1))))], [], [(0, [.d (.int .u32 r356_0.1), .d (.int .i64 r356_0.2), .d (.sl .unit [])])], 1⟩ [] (by kernel_rfl) trivial ?_
      rcases iteS h with ⟨b361_e0, h⟩ | ⟨b361_e0, h⟩
      · refine At.step hm ht ⟨[], [true], [], [0, 2, 7], [0]⟩ 10 ⟨[(0, .one (.c (.d (.int .u32 wait)))), (2, .one (.c (.d (.sl (.pair (.int .u32) (.int .i64)) l)))), (7, .one (.c (.ptr 0 0)))], [], [(0, [.d (.int .u32 r356_0.1), .d (.int .i64 r356_0.2), .d (.sl .unit [])])], 1⟩ [(decide ((1 : Int) > 64)) = true] (by kernel_rfl) ⟨b361_e0, trivial⟩ ?_
        refine At.step hm ht ⟨[], [], [], [0, 2, 7, 8], [0]⟩ 11 ⟨[(0, .one (.c (.d (.int .u32 wait)))), (2, .one (.c (.d (.sl (.pair (.int .u32) (.int .i64)) l)))), (7, .one (.c (.ptr 0 0))), (8, .one (.c (.d (.int .i64 64))))], [], [(0, [.d (.int .u32 r356_0.1), .d (.int .i64 r356_0.2), .d (.sl .unit [])])], 1⟩ [] (by kernel_rfl) trivial ?_
        refine At.step hm ht ⟨[], [], [], [0, 2, 7, 9], [0, 4]⟩ 12 ⟨[(0, .one (.c (.d (.int .u32 wait)))), (2, .one (.c (.d (.sl (.pair (.int .u32) (.int .i64)) l)))), (7, .one (.c (.ptr 0 0))), (9, .one (.c (.ptr 1 0)))], [], [(0, [.d (.int .u32 r356_0.1), .d (.int .i64 r356_0.2), .d (.sl .unit [])]), (1, [.d (.int .u32 wait), .d (.int .i64 64), .d (.sl .unit [])])], 2⟩ [0 + 3 ≤ 3] (by kernel_rfl) ⟨(by decide), trivial⟩ ?_
        refine At.step hm ht ⟨[], [], [.nil true 0 2 (.pair (.int .u32) (.int .u32)) none, .nil true 1 2 (.pair (.int .u64) (.int .u64)) none], [0, 2, 7, 9, 10], [0, 1]⟩ 13 ⟨[(0, .one (.c (.d (.int .u32 wait)))), (2, .one (.c (.d (.sl (.pair (.int .u32) (.int .i64)) l)))), (7, .one (.c (.ptr 0 0))), (9, .one (.c (.ptr 1 0))), (10, .one (.c (.d (.int .i64 0))))], [], [(0, [.d (.int .u32 r356_0.1), .d (.int .i64 r356_0.2), .d (.sl (.pair (.int .u32) (.int .u32)) [])]), (1, [.d (.int .u32 wait), .d (.int .i64 64), .d (.sl (.pair (.int .u64) (.int .u64)) [])])], 2⟩ [] (by kernel_rfl) trivial ?_
        obtain ⟨w450, cw450, h⟩ := bindS h
        refine f7_broughamlaw31_SackPlays_L13_ok n wait l 0 r356_0.1 r356_0.2 [] wait 64 [] w450 cw450 _ ?_
        rcases w450 with e451 | e452
        · have h := Option.some.inj h
          subst h
          rfl
        · show At Go.Proofs.Try.prog Go.Proofs.Try.f7 0 19 ⟨[(7, .one (.c (.ptr 0 0))), (9, .one (.c (.ptr 1 0)))], [], [(0, [.d (.int .u32 e452.1), .d (.int .i64 e452.2.1), .d (.sl (.pair (.int .u32) (.int .u32)) e452.2.2.1)]), (1, [.d (.int .u32 e452.2.2.2.1), .d (.int .i64 e452.2.2.2.2.1), .d (.sl (.pair (.int .u64) (.int .u64)) e452.2.2.2.2.2)])], 2⟩ _
          obtain ⟨r453_0, cr453_0, h⟩ := bindS h
          refine At.step hm ht ⟨[(1, .call [] [] (f38_broughamref31_Blocks_out r453_0))], [], [], [7, 9, 12], [0, 1, 3]⟩ 20 ⟨[(7, .one (.c (.ptr 0 0))), (9, .one (.c (.ptr 1 0))), (12, .one (.c (.own 2 (.pair (.int .u32) (.int .u32)) r453_0)))], [(2, some ⟨161, 0⟩)], [(0, [.d (.int .u32 e452.1), .d (.int .i64 e452.2.1), .d (.sl (.pair (.int .u32) (.int .u32)) e452.2.2.1)]), (1, [.d (.int .u32 e452.2.2.2.1), .d (.int .i64 e452.2.2.2.2.1), .d (.sl (.pair (.int .u64) (.int .u64)) e452.2.2.2.2.2)])], 3⟩ [FnOK Go.Proofs.Try.prog 38 (f38_broughamref31_Blocks_in e452.2.2.2.1 e452.2.2.2.2.1 e452.2.2.2.2.2) (f38_broughamref31_Blocks_out r453_0)] (by kernel_rfl) ⟨(f38_broughamref31_Blocks_ok n e452.2.2.2.1 e452.2.2.2.2.1 e452.2.2.2.2.2 r453_0 cr453_0), trivial⟩ ?_
          rcases iteS h with ⟨b454_e0, h⟩ | ⟨b454_e0, h⟩
          · refine At.step hm ht ⟨[], [true], [], [7, 9, 12], [0, 1, 2]⟩ 21 ⟨[(7, .one (.c (.ptr 0 0))), (9, .one (.c (.ptr 1 0))), (12, .one (.c (.own 2 (.pair (.int .u32) (.int .u32)) r453_0)))], [(2, some ⟨161, 0⟩)], [(0, [.d (.int .u32 e452.1), .d (.int .i64 e452.2.1), .d (.sl (.pair (.int .u32) (.int .u32)) e452.2.2.1)]), (1, [.d (.int .u32 e452.2.2.2.1), .d (.int .i64 e452.2.2.2.2.1), .d (.sl (.pair (.int .u64) (.int .u64)) e452.2.2.2.2.2)])], 3⟩ [(decide ((((r453_0.length : Nat) : Int) : Int) > 4)) = true] (by kernel_rfl) ⟨b454_e0, trivial⟩ ?_
            obtain ⟨g455_0, h⟩ := ifS h
            refine At.step hm ht ⟨[], [], [], [7, 9, 12], [0, 1]⟩ 22 ⟨[(7, .one (.c (.ptr 0 0))), (9, .one (.c (.ptr 1 0))), (12, .one (.c (.d (.sl (.pair (.int .u32) (.int .u32)) (r453_0.take 4)))))], [], [(0, [.d (.int .u32 e452.1), .d (.int .i64 e452.2.1), .d (.sl (.pair (.int .u32) (.int .u32)) e452.2.2.1)]), (1, [.d (.int .u32 e452.2.2.2.1), .d (.int .i64 e452.2.2.2.2.1), .d (.sl (.pair (.int .u64) (.int .u64)) e452.2.2.2.2.2)])], 2⟩ [cutOk r453_0.length none (some 4) none] (by kernel_rfl) ⟨g455_0, trivial⟩ ?_
            obtain ⟨r456_0, cr456_0, h⟩ := bindS h
            refine At.step hm ht ⟨[(1, .call [0] [] (f39_sack_Board_Say_out r456_0))], [], [], [9, 12, 13, 14], [1, 9, 5]⟩ 23 ⟨[(9, .one (.c (.ptr 0 0))), (12, .one (.c (.d (.sl (.pair (.int .u32) (.int .u32)) (r453_0.take 4))))), (13, .one (.c (.ptr 1 0))), (14, .one (.c (.d (.bool r456_0.1))))], [(2, some ⟨5, 0⟩)], [(0, [.d (.int .u32 e452.2.2.2.1), .d (.int .i64 e452.2.2.2.2.1), .d (.sl (.pair (.int .u64) (.int .u64)) e452.2.2.2.2.2)]), (1, [.d (.int .u8 r456_0.2.2.2.2.1), .own 2 (.int .u8) r456_0.2.2.2.2.2])], 3⟩ [FnOK Go.Proofs.Try.prog 39 (f39_sack_Board_Say_in e452.1 e452.2.1 e452.2.2.1) (f39_sack_Board_Say_out r456_0), 0 + 2 ≤ 2] (by kernel_rfl) ⟨(f39_sack_Board_Say_ok n e452.1 e452.2.1 e452.2.2.1 r456_0 cr456_0), (by decide), trivial⟩ ?_
            obtain ⟨r538_0, cr538_0, h⟩ := bindS h
            refine At.step hm ht ⟨[(3, .call [] [] (f40_broughamref31_Option_out r538_0))], [], [], [13, 14, 15, 16], [1, 6, 2]⟩ 24 ⟨[(13, .one (.c (.ptr 0 0))), (14, .one (.c (.d (.bool r456_0.1)))), (15, .one (.c (.own 1 (.int .u8) r538_0.1))), (16, .one (.c (.d (.bool r538_0.2))))], [(1, some ⟨5, 0⟩), (2, some ⟨5, 0⟩)], [(0, [.d (.int .u8 r456_0.2.2.2.2.1), .own 2 (.int .u8) r456_0.2.2.2.2.2])], 3⟩ [FnOK Go.Proofs.Try.prog 40 (f40_broughamref31_Option_in e452.2.2.2.1 (r453_0.take 4)) (f40_broughamref31_Option_out r538_0)] (by kernel_rfl) ⟨(f40_broughamref31_Option_ok n e452.2.2.2.1 (r453_0.take 4) r538_0 cr538_0), trivial⟩ ?_
            rcases iteS h with ⟨b622_3, h⟩ | ⟨b622_3, h⟩
            · rcases iteS h with ⟨b622_11, h⟩ | ⟨b622_11, h⟩
              · obtain ⟨r622_0, cr622_0, h⟩ := bindS h
                have h := Option.some.inj h
                subst h
                exact At.fin hm ht ⟨[(3, .b true), (11, .b true), (12, .call [] [] (f41_broughamlaw31_alive_out r622_0))], [], [], [6], []⟩ [(r456_0.1 == r538_0.2) = true, ((strOfNums r456_0.2.2.2.2.2).toList == (strOfNums r538_0.1).toList) = true, FnOK Go.Proofs.Try.prog 41 (f41_broughamlaw31_alive_in) (f41_broughamlaw31_alive_out r622_0)] (by kernel_rfl) ⟨b622_3, b622_11, (f41_broughamlaw31_alive_ok n r622_0 cr622_0), trivial⟩
              · have h := Option.some.inj h
                subst h
                exact At.fin hm ht ⟨[(3, .b true), (11, .b false)], [], [], [6], []⟩ [(r456_0.1 == r538_0.2) = true, ((strOfNums r456_0.2.2.2.2.2).toList == (strOfNums r538_0.1).toList) = false] (by kernel_rfl) ⟨b622_3, b622_11, trivial⟩
            · have h := Option.some.inj h
              subst h
              exact At.fin hm ht ⟨[(3, .b false)], [], [], [6], []⟩ [(r456_0.1 == r538_0.2) = false] (by kernel_rfl) ⟨b622_3, trivial⟩
          · refine At.step hm ht ⟨[], [false], [], [7, 9, 12], [0, 1, 2]⟩ 22 ⟨[(7, .one (.c (.ptr 0 0))), (9, .one (.c (.ptr 1 0))), (12, .one (.c (.own 2 (.pair (.int .u32) (.int .u32)) r453_0)))], [(2, some ⟨161, 0⟩)], [(0, [.d (.int .u32 e452.1), .d (.int .i64 e452.2.1), .d (.sl (.pair (.int .u32) (.int .u32)) e452.2.2.1)]), (1, [.d (.int .u32 e452.2.2.2.1), .d (.int .i64 e452.2.2.2.2.1), .d (.sl (.pair (.int .u64) (.int .u64)) e452.2.2.2.2.2)])], 3⟩ [(decide ((((r453_0.length : Nat) : Int) : Int) > 4)) = false] (by kernel_rfl) ⟨b454_e0, trivial⟩ ?_
            obtain ⟨r632_0, cr632_0, h⟩ := bindS h
            refine At.step hm ht ⟨[(1, .call [0] [] (f39_sack_Board_Say_out r632_0))], [], [], [9, 12, 13, 14], [1, 2, 10, 6]⟩ 23 ⟨[(9, .one (.c (.ptr 0 0))), (12, .one (.c (.own 1 (.pair (.int .u32) (.int .u32)) r453_0))), (13, .one (.c (.ptr 2 0))), (14, .one (.c (.d (.bool r632_0.1))))], [(1, some ⟨161, 0⟩), (3, some ⟨5, 0⟩)], [(0, [.d (.int .u32 e452.2.2.2.1), .d (.int .i64 e452.2.2.2.2.1), .d (.sl (.pair (.int .u64) (.int .u64)) e452.2.2.2.2.2)]), (2, [.d (.int .u8 r632_0.2.2.2.2.1), .own 3 (.int .u8) r632_0.2.2.2.2.2])], 4⟩ [FnOK Go.Proofs.Try.prog 39 (f39_sack_Board_Say_in e452.1 e452.2.1 e452.2.2.1) (f39_sack_Board_Say_out r632_0), 0 + 2 ≤ 2] (by kernel_rfl) ⟨(f39_sack_Board_Say_ok n e452.1 e452.2.1 e452.2.2.1 r632_0 cr632_0), (by decide), trivial⟩ ?_
            obtain ⟨r633_0, cr633_0, h⟩ := bindS h
            refine At.step hm ht ⟨[(3, .call [] [] (f40_broughamref31_Option_out r633_0))], [], [], [13, 14, 15, 16], [2, 7, 3]⟩ 24 ⟨[(13, .one (.c (.ptr 0 0))), (14, .one (.c (.d (.bool r632_0.1)))), (15, .one (.c (.own 1 (.int .u8) r633_0.1))), (16, .one (.c (.d (.bool r633_0.2))))], [(1, some ⟨5, 0⟩), (2, some ⟨5, 0⟩)], [(0, [.d (.int .u8 r632_0.2.2.2.2.1), .own 2 (.int .u8) r632_0.2.2.2.2.2])], 3⟩ [FnOK Go.Proofs.Try.prog 40 (f40_broughamref31_Option_in e452.2.2.2.1 r453_0) (f40_broughamref31_Option_out r633_0)] (by kernel_rfl) ⟨(f40_broughamref31_Option_ok n e452.2.2.2.1 r453_0 r633_0 cr633_0), trivial⟩ ?_
            rcases iteS h with ⟨b634_3, h⟩ | ⟨b634_3, h⟩
            · rcases iteS h with ⟨b634_11, h⟩ | ⟨b634_11, h⟩
              · obtain ⟨r634_0, cr634_0, h⟩ := bindS h
                have h := Option.some.inj h
                subst h
                exact At.fin hm ht ⟨[(3, .b true), (11, .b true), (12, .call [] [] (f41_broughamlaw31_alive_out r634_0))], [], [], [6], []⟩ [(r632_0.1 == r633_0.2) = true, ((strOfNums r632_0.2.2.2.2.2).toList == (strOfNums r633_0.1).toList) = true, FnOK Go.Proofs.Try.prog 41 (f41_broughamlaw31_alive_in) (f41_broughamlaw31_alive_out r634_0)] (by kernel_rfl) ⟨b634_3, b634_11, (f41_broughamlaw31_alive_ok n r634_0 cr634_0), trivial⟩
              · have h := Option.some.inj h
                subst h
                exact At.fin hm ht ⟨[(3, .b true), (11, .b false)], [], [], [6], []⟩ [(r632_0.1 == r633_0.2) = true, ((strOfNums r632_0.2.2.2.2.2).toList == (strOfNums r633_0.1).toList) = false] (by kernel_rfl) ⟨b634_3, b634_11, trivial⟩
            · have h := Option.some.inj h
              subst h
              exact At.fin hm ht ⟨[(3, .b false)], [], [], [6], []⟩ [(r632_0.1 == r633_0.2) = false] (by kernel_rfl) ⟨b634_3, trivial⟩
      · refine At.step hm ht ⟨[], [false], [], [0, 2, 7, 8], [0]⟩ 11 ⟨[(0, .one (.c (.d (.int .u32 wait)))), (2, .one (.c (.d (.sl (.pair (.int .u32) (.int .i64)) l)))), (7, .one (.c (.ptr 0 0))), (8, .one (.c (.d (.int .i64 1))))], [], [(0, [.d (.int .u32 r356_0.1), .d (.int .i64 r356_0.2), .d (.sl .unit [])])], 1⟩ [(decide ((1 : Int) > 64)) = false] (by kernel_rfl) ⟨b361_e0, trivial⟩ ?_
        refine At.step hm ht ⟨[], [], [], [0, 2, 7, 9], [0, 4]⟩ 12 ⟨[(0, .one (.c (.d (.int .u32 wait)))), (2, .one (.c (.d (.sl (.pair (.int .u32) (.int .i64)) l)))), (7, .one (.c (.ptr 0 0))), (9, .one (.c (.ptr 1 0)))], [], [(0, [.d (.int .u32 r356_0.1), .d (.int .i64 r356_0.2), .d (.sl .unit [])]), (1, [.d (.int .u32 wait), .d (.int .i64 1), .d (.sl .unit [])])], 2⟩ [0 + 3 ≤ 3] (by kernel_rfl) ⟨(by decide), trivial⟩ ?_
        refine At.step hm ht ⟨[], [], [.nil true 0 2 (.pair (.int .u32) (.int .u32)) none, .nil true 1 2 (.pair (.int .u64) (.int .u64)) none], [0, 2, 7, 9, 10], [0, 1]⟩ 13 ⟨[(0, .one (.c (.d (.int .u32 wait)))), (2, .one (.c (.d (.sl (.pair (.int .u32) (.int .i64)) l)))), (7, .one (.c (.ptr 0 0))), (9, .one (.c (.ptr 1 0))), (10, .one (.c (.d (.int .i64 0))))], [], [(0, [.d (.int .u32 r356_0.1), .d (.int .i64 r356_0.2), .d (.sl (.pair (.int .u32) (.int .u32)) [])]), (1, [.d (.int .u32 wait), .d (.int .i64 1), .d (.sl (.pair (.int .u64) (.int .u64)) [])])], 2⟩ [] (by kernel_rfl) trivial ?_
        obtain ⟨w637, cw637, h⟩ := bindS h
        refine f7_broughamlaw31_SackPlays_L13_ok n wait l 0 r356_0.1 r356_0.2 [] wait 1 [] w637 cw637 _ ?_
        rcases w637 with e638 | e639
        · have h := Option.some.inj h
          subst h
          rfl
        · show At Go.Proofs.Try.prog Go.Proofs.Try.f7 0 19 ⟨[(7, .one (.c (.ptr 0 0))), (9, .one (.c (.ptr 1 0)))], [], [(0, [.d (.int .u32 e639.1), .d (.int .i64 e639.2.1), .d (.sl (.pair (.int .u32) (.int .u32)) e639.2.2.1)]), (1, [.d (.int .u32 e639.2.2.2.1), .d (.int .i64 e639.2.2.2.2.1), .d (.sl (.pair (.int .u64) (.int .u64)) e639.2.2.2.2.2)])], 2⟩ _
          obtain ⟨r640_0, cr640_0, h⟩ := bindS h
          refine At.step hm ht ⟨[(1, .call [] [] (f38_broughamref31_Blocks_out r640_0))], [], [], [7, 9, 12], [0, 1, 3]⟩ 20 ⟨[(7, .one (.c (.ptr 0 0))), (9, .one (.c (.ptr 1 0))), (12, .one (.c (.own 2 (.pair (.int .u32) (.int .u32)) r640_0)))], [(2, some ⟨161, 0⟩)], [(0, [.d (.int .u32 e639.1), .d (.int .i64 e639.2.1), .d (.sl (.pair (.int .u32) (.int .u32)) e639.2.2.1)]), (1, [.d (.int .u32 e639.2.2.2.1), .d (.int .i64 e639.2.2.2.2.1), .d (.sl (.pair (.int .u64) (.int .u64)) e639.2.2.2.2.2)])], 3⟩ [FnOK Go.Proofs.Try.prog 38 (f38_broughamref31_Blocks_in e639.2.2.2.1 e639.2.2.2.2.1 e639.2.2.2.2.2) (f38_broughamref31_Blocks_out r640_0)] (by kernel_rfl) ⟨(f38_broughamref31_Blocks_ok n e639.2.2.2.1 e639.2.2.2.2.1 e639.2.2.2.2.2 r640_0 cr640_0), trivial⟩ ?_
          rcases iteS h with ⟨b641_e0, h⟩ | ⟨b641_e0, h⟩
          · refine At.step hm ht ⟨[], [true], [], [7, 9, 12], [0, 1, 2]⟩ 21 ⟨[(7, .one (.c (.ptr 0 0))), (9, .one (.c (.ptr 1 0))), (12, .one (.c (.own 2 (.pair (.int .u32) (.int .u32)) r640_0)))], [(2, some ⟨161, 0⟩)], [(0, [.d (.int .u32 e639.1), .d (.int .i64 e639.2.1), .d (.sl (.pair (.int .u32) (.int .u32)) e639.2.2.1)]), (1, [.d (.int .u32 e639.2.2.2.1), .d (.int .i64 e639.2.2.2.2.1), .d (.sl (.pair (.int .u64) (.int .u64)) e639.2.2.2.2.2)])], 3⟩ [(decide ((((r640_0.length : Nat) : Int) : Int) > 4)) = true] (by kernel_rfl) ⟨b641_e0, trivial⟩ ?_
            obtain ⟨g642_0, h⟩ := ifS h
            refine At.step hm ht ⟨[], [], [], [7, 9, 12], [0, 1]⟩ 22 ⟨[(7, .one (.c (.ptr 0 0))), (9, .one (.c (.ptr 1 0))), (12, .one (.c (.d (.sl (.pair (.int .u32) (.int .u32)) (r640_0.take 4)))))], [], [(0, [.d (.int .u32 e639.1), .d (.int .i64 e639.2.1), .d (.sl (.pair (.int .u32) (.int .u32)) e639.2.2.1)]), (1, [.d (.int .u32 e639.2.2.2.1), .d (.int .i64 e639.2.2.2.2.1), .d (.sl (.pair (.int .u64) (.int .u64)) e639.2.2.2.2.2)])], 2⟩ [cutOk r640_0.length none (some 4) none] (by kernel_rfl) ⟨g642_0, trivial⟩ ?_
            obtain ⟨r643_0, cr643_0, h⟩ := bindS h
            refine At.step hm ht ⟨[(1, .call [0] [] (f39_sack_Board_Say_out r643_0))], [], [], [9, 12, 13, 14], [1, 9, 5]⟩ 23 ⟨[(9, .one (.c (.ptr 0 0))), (12, .one (.c (.d (.sl (.pair (.int .u32) (.int .u32)) (r640_0.take 4))))), (13, .one (.c (.ptr 1 0))), (14, .one (.c (.d (.bool r643_0.1))))], [(2, some ⟨5, 0⟩)], [(0, [.d (.int .u32 e639.2.2.2.1), .d (.int .i64 e639.2.2.2.2.1), .d (.sl (.pair (.int .u64) (.int .u64)) e639.2.2.2.2.2)]), (1, [.d (.int .u8 r643_0.2.2.2.2.1), .own 2 (.int .u8) r643_0.2.2.2.2.2])], 3⟩ [FnOK Go.Proofs.Try.prog 39 (f39_sack_Board_Say_in e639.1 e639.2.1 e639.2.2.1) (f39_sack_Board_Say_out r643_0), 0 + 2 ≤ 2] (by kernel_rfl) ⟨(f39_sack_Board_Say_ok n e639.1 e639.2.1 e639.2.2.1 r643_0 cr643_0), (by decide), trivial⟩ ?_
            obtain ⟨r644_0, cr644_0, h⟩ := bindS h
            refine At.step hm ht ⟨[(3, .call [] [] (f40_broughamref31_Option_out r644_0))], [], [], [13, 14, 15, 16], [1, 6, 2]⟩ 24 ⟨[(13, .one (.c (.ptr 0 0))), (14, .one (.c (.d (.bool r643_0.1)))), (15, .one (.c (.own 1 (.int .u8) r644_0.1))), (16, .one (.c (.d (.bool r644_0.2))))], [(1, some ⟨5, 0⟩), (2, some ⟨5, 0⟩)], [(0, [.d (.int .u8 r643_0.2.2.2.2.1), .own 2 (.int .u8) r643_0.2.2.2.2.2])], 3⟩ [FnOK Go.Proofs.Try.prog 40 (f40_broughamref31_Option_in e639.2.2.2.1 (r640_0.take 4)) (f40_broughamref31_Option_out r644_0)] (by kernel_rfl) ⟨(f40_broughamref31_Option_ok n e639.2.2.2.1 (r640_0.take 4) r644_0 cr644_0), trivial⟩ ?_
            rcases iteS h with ⟨b645_3, h⟩ | ⟨b645_3, h⟩
            · rcases iteS h with ⟨b645_11, h⟩ | ⟨b645_11, h⟩
              · obtain ⟨r645_0, cr645_0, h⟩ := bindS h
                have h := Option.some.inj h
                subst h
                exact At.fin hm ht ⟨[(3, .b true), (11, .b true), (12, .call [] [] (f41_broughamlaw31_alive_out r645_0))], [], [], [6], []⟩ [(r643_0.1 == r644_0.2) = true, ((strOfNums r643_0.2.2.2.2.2).toList == (strOfNums r644_0.1).toList) = true, FnOK Go.Proofs.Try.prog 41 (f41_broughamlaw31_alive_in) (f41_broughamlaw31_alive_out r645_0)] (by kernel_rfl) ⟨b645_3, b645_11, (f41_broughamlaw31_alive_ok n r645_0 cr645_0), trivial⟩
              · have h := Option.some.inj h
                subst h
                exact At.fin hm ht ⟨[(3, .b true), (11, .b false)], [], [], [6], []⟩ [(r643_0.1 == r644_0.2) = true, ((strOfNums r643_0.2.2.2.2.2).toList == (strOfNums r644_0.1).toList) = false] (by kernel_rfl) ⟨b645_3, b645_11, trivial⟩
            · have h := Option.some.inj h
              subst h
              exact At.fin hm ht ⟨[(3, .b false)], [], [], [6], []⟩ [(r643_0.1 == r644_0.2) = false] (by kernel_rfl) ⟨b645_3, trivial⟩
          · refine At.step hm ht ⟨[], [false], [], [7, 9, 12], [0, 1, 2]⟩ 22 ⟨[(7, .one (.c (.ptr 0 0))), (9, .one (.c (.ptr 1 0))), (12, .one (.c (.own 2 (.pair (.int .u32) (.int .u32)) r640_0)))], [(2, some ⟨161, 0⟩)], [(0, [.d (.int .u32 e639.1), .d (.int .i64 e639.2.1), .d (.sl (.pair (.int .u32) (.int .u32)) e639.2.2.1)]), (1, [.d (.int .u32 e639.2.2.2.1), .d (.int .i64 e639.2.2.2.2.1), .d (.sl (.pair (.int .u64) (.int .u64)) e639.2.2.2.2.2)])], 3⟩ [(decide ((((r640_0.length : Nat) : Int) : Int) > 4)) = false] (by kernel_rfl) ⟨b641_e0, trivial⟩ ?_
            obtain ⟨r646_0, cr646_0, h⟩ := bindS h
            refine At.step hm ht ⟨[(1, .call [0] [] (f39_sack_Board_Say_out r646_0))], [], [], [9, 12, 13, 14], [1, 2, 10, 6]⟩ 23 ⟨[(9, .one (.c (.ptr 0 0))), (12, .one (.c (.own 1 (.pair (.int .u32) (.int .u32)) r640_0))), (13, .one (.c (.ptr 2 0))), (14, .one (.c (.d (.bool r646_0.1))))], [(1, some ⟨161, 0⟩), (3, some ⟨5, 0⟩)], [(0, [.d (.int .u32 e639.2.2.2.1), .d (.int .i64 e639.2.2.2.2.1), .d (.sl (.pair (.int .u64) (.int .u64)) e639.2.2.2.2.2)]), (2, [.d (.int .u8 r646_0.2.2.2.2.1), .own 3 (.int .u8) r646_0.2.2.2.2.2])], 4⟩ [FnOK Go.Proofs.Try.prog 39 (f39_sack_Board_Say_in e639.1 e639.2.1 e639.2.2.1) (f39_sack_Board_Say_out r646_0), 0 + 2 ≤ 2] (by kernel_rfl) ⟨(f39_sack_Board_Say_ok n e639.1 e639.2.1 e639.2.2.1 r646_0 cr646_0), (by decide), trivial⟩ ?_
            obtain ⟨r647_0, cr647_0, h⟩ := bindS h
            refine At.step hm ht ⟨[(3, .call [] [] (f40_broughamref31_Option_out r647_0))], [], [], [13, 14, 15, 16], [2, 7, 3]⟩ 24 ⟨[(13, .one (.c (.ptr 0 0))), (14, .one (.c (.d (.bool r646_0.1)))), (15, .one (.c (.own 1 (.int .u8) r647_0.1))), (16, .one (.c (.d (.bool r647_0.2))))], [(1, some ⟨5, 0⟩), (2, some ⟨5, 0⟩)], [(0, [.d (.int .u8 r646_0.2.2.2.2.1), .own 2 (.int .u8) r646_0.2.2.2.2.2])], 3⟩ [FnOK Go.Proofs.Try.prog 40 (f40_broughamref31_Option_in e639.2.2.2.1 r640_0) (f40_broughamref31_Option_out r647_0)] (by kernel_rfl) ⟨(f40_broughamref31_Option_ok n e639.2.2.2.1 r640_0 r647_0 cr647_0), trivial⟩ ?_
            rcases iteS h with ⟨b648_3, h⟩ | ⟨b648_3, h⟩
            · rcases iteS h with ⟨b648_11, h⟩ | ⟨b648_11, h⟩
              · obtain ⟨r648_0, cr648_0, h⟩ := bindS h
                have h := Option.some.inj h
                subst h
                exact At.fin hm ht ⟨[(3, .b true), (11, .b true), (12, .call [] [] (f41_broughamlaw31_alive_out r648_0))], [], [], [6], []⟩ [(r646_0.1 == r647_0.2) = true, ((strOfNums r646_0.2.2.2.2.2).toList == (strOfNums r647_0.1).toList) = true, FnOK Go.Proofs.Try.prog 41 (f41_broughamlaw31_alive_in) (f41_broughamlaw31_alive_out r648_0)] (by kernel_rfl) ⟨b648_3, b648_11, (f41_broughamlaw31_alive_ok n r648_0 cr648_0), trivial⟩
              · have h := Option.some.inj h
                subst h
                exact At.fin hm ht ⟨[(3, .b true), (11, .b false)], [], [], [6], []⟩ [(r646_0.1 == r647_0.2) = true, ((strOfNums r646_0.2.2.2.2.2).toList == (strOfNums r647_0.1).toList) = false] (by kernel_rfl) ⟨b648_3, b648_11, trivial⟩
            · have h := Option.some.inj h
              subst h
              exact At.fin hm ht ⟨[(3, .b false)], [], [], [6], []⟩ [(r646_0.1 == r647_0.2) = false] (by kernel_rfl) ⟨b648_3, trivial⟩
    · refine At.step hm ht ⟨[], [false], [], [0, 2, 7, 8], [0]⟩ 9 ⟨[(0, .one (.c (.d (.int .u32 wait)))), (2, .one (.c (.d (.sl (.pair (.int .u32) (.int .i64)) l)))), (7, .one (.c (.ptr 0 0))), (8, .one (.c (.d (.int .i64 most))))], [], [(0, [.d (.int .u32 r356_0.1), .d (.int .i64 r356_0.2), .d (.sl .unit [])])], 1⟩ [(decide ((most : Int) < 1)) = false] (by kernel_rfl) ⟨b359_e0, trivial⟩ ?_
      rcases iteS h with ⟨b649_e0, h⟩ | ⟨b649_e0, h⟩
      · refine At.step hm ht ⟨[], [true], [], [0, 2, 7], [0]⟩ 10 ⟨[(0, .one (.c (.d (.int .u32 wait)))), (2, .one (.c (.d (.sl (.pair (.int .u32) (.int .i64)) l)))), (7, .one (.c (.ptr 0 0)))], [], [(0, [.d (.int .u32 r356_0.1), .d (.int .i64 r356_0.2), .d (.sl .unit [])])], 1⟩ [(decide ((most : Int) > 64)) = true] (by kernel_rfl) ⟨b649_e0, trivial⟩ ?_
        refine At.step hm ht ⟨[], [], [], [0, 2, 7, 8], [0]⟩ 11 ⟨[(0, .one (.c (.d (.int .u32 wait)))), (2, .one (.c (.d (.sl (.pair (.int .u32) (.int .i64)) l)))), (7, .one (.c (.ptr 0 0))), (8, .one (.c (.d (.int .i64 64))))], [], [(0, [.d (.int .u32 r356_0.1), .d (.int .i64 r356_0.2), .d (.sl .unit [])])], 1⟩ [] (by kernel_rfl) trivial ?_
        refine At.step hm ht ⟨[], [], [], [0, 2, 7, 9], [0, 4]⟩ 12 ⟨[(0, .one (.c (.d (.int .u32 wait)))), (2, .one (.c (.d (.sl (.pair (.int .u32) (.int .i64)) l)))), (7, .one (.c (.ptr 0 0))), (9, .one (.c (.ptr 1 0)))], [], [(0, [.d (.int .u32 r356_0.1), .d (.int .i64 r356_0.2), .d (.sl .unit [])]), (1, [.d (.int .u32 wait), .d (.int .i64 64), .d (.sl .unit [])])], 2⟩ [0 + 3 ≤ 3] (by kernel_rfl) ⟨(by decide), trivial⟩ ?_
        refine At.step hm ht ⟨[], [], [.nil true 0 2 (.pair (.int .u32) (.int .u32)) none, .nil true 1 2 (.pair (.int .u64) (.int .u64)) none], [0, 2, 7, 9, 10], [0, 1]⟩ 13 ⟨[(0, .one (.c (.d (.int .u32 wait)))), (2, .one (.c (.d (.sl (.pair (.int .u32) (.int .i64)) l)))), (7, .one (.c (.ptr 0 0))), (9, .one (.c (.ptr 1 0))), (10, .one (.c (.d (.int .i64 0))))], [], [(0, [.d (.int .u32 r356_0.1), .d (.int .i64 r356_0.2), .d (.sl (.pair (.int .u32) (.int .u32)) [])]), (1, [.d (.int .u32 wait), .d (.int .i64 64), .d (.sl (.pair (.int .u64) (.int .u64)) [])])], 2⟩ [] (by kernel_rfl) trivial ?_
        obtain ⟨w653, cw653, h⟩ := bindS h
        refine f7_broughamlaw31_SackPlays_L13_ok n wait l 0 r356_0.1 r356_0.2 [] wait 64 [] w653 cw653 _ ?_
        rcases w653 with e654 | e655
        · have h := Option.some.inj h
          subst h
          rfl
        · show At Go.Proofs.Try.prog Go.Proofs.Try.f7 0 19 ⟨[(7, .one (.c (.ptr 0 0))), (9, .one (.c (.ptr 1 0)))], [], [(0, [.d (.int .u32 e655.1), .d (.int .i64 e655.2.1), .d (.sl (.pair (.int .u32) (.int .u32)) e655.2.2.1)]), (1, [.d (.int .u32 e655.2.2.2.1), .d (.int .i64 e655.2.2.2.2.1), .d (.sl (.pair (.int .u64) (.int .u64)) e655.2.2.2.2.2)])], 2⟩ _
          obtain ⟨r656_0, cr656_0, h⟩ := bindS h
          refine At.step hm ht ⟨[(1, .call [] [] (f38_broughamref31_Blocks_out r656_0))], [], [], [7, 9, 12], [0, 1, 3]⟩ 20 ⟨[(7, .one (.c (.ptr 0 0))), (9, .one (.c (.ptr 1 0))), (12, .one (.c (.own 2 (.pair (.int .u32) (.int .u32)) r656_0)))], [(2, some ⟨161, 0⟩)], [(0, [.d (.int .u32 e655.1), .d (.int .i64 e655.2.1), .d (.sl (.pair (.int .u32) (.int .u32)) e655.2.2.1)]), (1, [.d (.int .u32 e655.2.2.2.1), .d (.int .i64 e655.2.2.2.2.1), .d (.sl (.pair (.int .u64) (.int .u64)) e655.2.2.2.2.2)])], 3⟩ [FnOK Go.Proofs.Try.prog 38 (f38_broughamref31_Blocks_in e655.2.2.2.1 e655.2.2.2.2.1 e655.2.2.2.2.2) (f38_broughamref31_Blocks_out r656_0)] (by kernel_rfl) ⟨(f38_broughamref31_Blocks_ok n e655.2.2.2.1 e655.2.2.2.2.1 e655.2.2.2.2.2 r656_0 cr656_0), trivial⟩ ?_
          rcases iteS h with ⟨b657_e0, h⟩ | ⟨b657_e0, h⟩
          · refine At.step hm ht ⟨[], [true], [], [7, 9, 12], [0, 1, 2]⟩ 21 ⟨[(7, .one (.c (.ptr 0 0))), (9, .one (.c (.ptr 1 0))), (12, .one (.c (.own 2 (.pair (.int .u32) (.int .u32)) r656_0)))], [(2, some ⟨161, 0⟩)], [(0, [.d (.int .u32 e655.1), .d (.int .i64 e655.2.1), .d (.sl (.pair (.int .u32) (.int .u32)) e655.2.2.1)]), (1, [.d (.int .u32 e655.2.2.2.1), .d (.int .i64 e655.2.2.2.2.1), .d (.sl (.pair (.int .u64) (.int .u64)) e655.2.2.2.2.2)])], 3⟩ [(decide ((((r656_0.length : Nat) : Int) : Int) > 4)) = true] (by kernel_rfl) ⟨b657_e0, trivial⟩ ?_
            obtain ⟨g658_0, h⟩ := ifS h
            refine At.step hm ht ⟨[], [], [], [7, 9, 12], [0, 1]⟩ 22 ⟨[(7, .one (.c (.ptr 0 0))), (9, .one (.c (.ptr 1 0))), (12, .one (.c (.d (.sl (.pair (.int .u32) (.int .u32)) (r656_0.take 4)))))], [], [(0, [.d (.int .u32 e655.1), .d (.int .i64 e655.2.1), .d (.sl (.pair (.int .u32) (.int .u32)) e655.2.2.1)]), (1, [.d (.int .u32 e655.2.2.2.1), .d (.int .i64 e655.2.2.2.2.1), .d (.sl (.pair (.int .u64) (.int .u64)) e655.2.2.2.2.2)])], 2⟩ [cutOk r656_0.length none (some 4) none] (by kernel_rfl) ⟨g658_0, trivial⟩ ?_
            obtain ⟨r659_0, cr659_0, h⟩ := bindS h
            refine At.step hm ht ⟨[(1, .call [0] [] (f39_sack_Board_Say_out r659_0))], [], [], [9, 12, 13, 14], [1, 9, 5]⟩ 23 ⟨[(9, .one (.c (.ptr 0 0))), (12, .one (.c (.d (.sl (.pair (.int .u32) (.int .u32)) (r656_0.take 4))))), (13, .one (.c (.ptr 1 0))), (14, .one (.c (.d (.bool r659_0.1))))], [(2, some ⟨5, 0⟩)], [(0, [.d (.int .u32 e655.2.2.2.1), .d (.int .i64 e655.2.2.2.2.1), .d (.sl (.pair (.int .u64) (.int .u64)) e655.2.2.2.2.2)]), (1, [.d (.int .u8 r659_0.2.2.2.2.1), .own 2 (.int .u8) r659_0.2.2.2.2.2])], 3⟩ [FnOK Go.Proofs.Try.prog 39 (f39_sack_Board_Say_in e655.1 e655.2.1 e655.2.2.1) (f39_sack_Board_Say_out r659_0), 0 + 2 ≤ 2] (by kernel_rfl) ⟨(f39_sack_Board_Say_ok n e655.1 e655.2.1 e655.2.2.1 r659_0 cr659_0), (by decide), trivial⟩ ?_
            obtain ⟨r660_0, cr660_0, h⟩ := bindS h
            refine At.step hm ht ⟨[(3, .call [] [] (f40_broughamref31_Option_out r660_0))], [], [], [13, 14, 15, 16], [1, 6, 2]⟩ 24 ⟨[(13, .one (.c (.ptr 0 0))), (14, .one (.c (.d (.bool r659_0.1)))), (15, .one (.c (.own 1 (.int .u8) r660_0.1))), (16, .one (.c (.d (.bool r660_0.2))))], [(1, some ⟨5, 0⟩), (2, some ⟨5, 0⟩)], [(0, [.d (.int .u8 r659_0.2.2.2.2.1), .own 2 (.int .u8) r659_0.2.2.2.2.2])], 3⟩ [FnOK Go.Proofs.Try.prog 40 (f40_broughamref31_Option_in e655.2.2.2.1 (r656_0.take 4)) (f40_broughamref31_Option_out r660_0)] (by kernel_rfl) ⟨(f40_broughamref31_Option_ok n e655.2.2.2.1 (r656_0.take 4) r660_0 cr660_0), trivial⟩ ?_
            rcases iteS h with ⟨b661_3, h⟩ | ⟨b661_3, h⟩
            · rcases iteS h with ⟨b661_11, h⟩ | ⟨b661_11, h⟩
              · obtain ⟨r661_0, cr661_0, h⟩ := bindS h
                have h := Option.some.inj h
                subst h
                exact At.fin hm ht ⟨[(3, .b true), (11, .b true), (12, .call [] [] (f41_broughamlaw31_alive_out r661_0))], [], [], [6], []⟩ [(r659_0.1 == r660_0.2) = true, ((strOfNums r659_0.2.2.2.2.2).toList == (strOfNums r660_0.1).toList) = true, FnOK Go.Proofs.Try.prog 41 (f41_broughamlaw31_alive_in) (f41_broughamlaw31_alive_out r661_0)] (by kernel_rfl) ⟨b661_3, b661_11, (f41_broughamlaw31_alive_ok n r661_0 cr661_0), trivial⟩
              · have h := Option.some.inj h
                subst h
                exact At.fin hm ht ⟨[(3, .b true), (11, .b false)], [], [], [6], []⟩ [(r659_0.1 == r660_0.2) = true, ((strOfNums r659_0.2.2.2.2.2).toList == (strOfNums r660_0.1).toList) = false] (by kernel_rfl) ⟨b661_3, b661_11, trivial⟩
            · have h := Option.some.inj h
              subst h
              exact At.fin hm ht ⟨[(3, .b false)], [], [], [6], []⟩ [(r659_0.1 == r660_0.2) = false] (by kernel_rfl) ⟨b661_3, trivial⟩
          · refine At.step hm ht ⟨[], [false], [], [7, 9, 12], [0, 1, 2]⟩ 22 ⟨[(7, .one (.c (.ptr 0 0))), (9, .one (.c (.ptr 1 0))), (12, .one (.c (.own 2 (.pair (.int .u32) (.int .u32)) r656_0)))], [(2, some ⟨161, 0⟩)], [(0, [.d (.int .u32 e655.1), .d (.int .i64 e655.2.1), .d (.sl (.pair (.int .u32) (.int .u32)) e655.2.2.1)]), (1, [.d (.int .u32 e655.2.2.2.1), .d (.int .i64 e655.2.2.2.2.1), .d (.sl (.pair (.int .u64) (.int .u64)) e655.2.2.2.2.2)])], 3⟩ [(decide ((((r656_0.length : Nat) : Int) : Int) > 4)) = false] (by kernel_rfl) ⟨b657_e0, trivial⟩ ?_
            obtain ⟨r662_0, cr662_0, h⟩ := bindS h
            refine At.step hm ht ⟨[(1, .call [0] [] (f39_sack_Board_Say_out r662_0))], [], [], [9, 12, 13, 14], [1, 2, 10, 6]⟩ 23 ⟨[(9, .one (.c (.ptr 0 0))), (12, .one (.c (.own 1 (.pair (.int .u32) (.int .u32)) r656_0))), (13, .one (.c (.ptr 2 0))), (14, .one (.c (.d (.bool r662_0.1))))], [(1, some ⟨161, 0⟩), (3, some ⟨5, 0⟩)], [(0, [.d (.int .u32 e655.2.2.2.1), .d (.int .i64 e655.2.2.2.2.1), .d (.sl (.pair (.int .u64) (.int .u64)) e655.2.2.2.2.2)]), (2, [.d (.int .u8 r662_0.2.2.2.2.1), .own 3 (.int .u8) r662_0.2.2.2.2.2])], 4⟩ [FnOK Go.Proofs.Try.prog 39 (f39_sack_Board_Say_in e655.1 e655.2.1 e655.2.2.1) (f39_sack_Board_Say_out r662_0), 0 + 2 ≤ 2] (by kernel_rfl) ⟨(f39_sack_Board_Say_ok n e655.1 e655.2.1 e655.2.2.1 r662_0 cr662_0), (by decide), trivial⟩ ?_
            obtain ⟨r663_0, cr663_0, h⟩ := bindS h
            refine At.step hm ht ⟨[(3, .call [] [] (f40_broughamref31_Option_out r663_0))], [], [], [13, 14, 15, 16], [2, 7, 3]⟩ 24 ⟨[(13, .one (.c (.ptr 0 0))), (14, .one (.c (.d (.bool r662_0.1)))), (15, .one (.c (.own 1 (.int .u8) r663_0.1))), (16, .one (.c (.d (.bool r663_0.2))))], [(1, some ⟨5, 0⟩), (2, some ⟨5, 0⟩)], [(0, [.d (.int .u8 r662_0.2.2.2.2.1), .own 2 (.int .u8) r662_0.2.2.2.2.2])], 3⟩ [FnOK Go.Proofs.Try.prog 40 (f40_broughamref31_Option_in e655.2.2.2.1 r656_0) (f40_broughamref31_Option_out r663_0)] (by kernel_rfl) ⟨(f40_broughamref31_Option_ok n e655.2.2.2.1 r656_0 r663_0 cr663_0), trivial⟩ ?_
            rcases iteS h with ⟨b664_3, h⟩ | ⟨b664_3, h⟩
            · rcases iteS h with ⟨b664_11, h⟩ | ⟨b664_11, h⟩
              · obtain ⟨r664_0, cr664_0, h⟩ := bindS h
                have h := Option.some.inj h
                subst h
                exact At.fin hm ht ⟨[(3, .b true), (11, .b true), (12, .call [] [] (f41_broughamlaw31_alive_out r664_0))], [], [], [6], []⟩ [(r662_0.1 == r663_0.2) = true, ((strOfNums r662_0.2.2.2.2.2).toList == (strOfNums r663_0.1).toList) = true, FnOK Go.Proofs.Try.prog 41 (f41_broughamlaw31_alive_in) (f41_broughamlaw31_alive_out r664_0)] (by kernel_rfl) ⟨b664_3, b664_11, (f41_broughamlaw31_alive_ok n r664_0 cr664_0), trivial⟩
              · have h := Option.some.inj h
                subst h
                exact At.fin hm ht ⟨[(3, .b true), (11, .b false)], [], [], [6], []⟩ [(r662_0.1 == r663_0.2) = true, ((strOfNums r662_0.2.2.2.2.2).toList == (strOfNums r663_0.1).toList) = false] (by kernel_rfl) ⟨b664_3, b664_11, trivial⟩
            · have h := Option.some.inj h
              subst h
              exact At.fin hm ht ⟨[(3, .b false)], [], [], [6], []⟩ [(r662_0.1 == r663_0.2) = false] (by kernel_rfl) ⟨b664_3, trivial⟩
      · refine At.step hm ht ⟨[], [false], [], [0, 2, 7, 8], [0]⟩ 11 ⟨[(0, .one (.c (.d (.int .u32 wait)))), (2, .one (.c (.d (.sl (.pair (.int .u32) (.int .i64)) l)))), (7, .one (.c (.ptr 0 0))), (8, .one (.c (.d (.int .i64 most))))], [], [(0, [.d (.int .u32 r356_0.1), .d (.int .i64 r356_0.2), .d (.sl .unit [])])], 1⟩ [(decide ((most : Int) > 64)) = false] (by kernel_rfl) ⟨b649_e0, trivial⟩ ?_
        refine At.step hm ht ⟨[], [], [], [0, 2, 7, 9], [0, 4]⟩ 12 ⟨[(0, .one (.c (.d (.int .u32 wait)))), (2, .one (.c (.d (.sl (.pair (.int .u32) (.int .i64)) l)))), (7, .one (.c (.ptr 0 0))), (9, .one (.c (.ptr 1 0)))], [], [(0, [.d (.int .u32 r356_0.1), .d (.int .i64 r356_0.2), .d (.sl .unit [])]), (1, [.d (.int .u32 wait), .d (.int .i64 most), .d (.sl .unit [])])], 2⟩ [0 + 3 ≤ 3] (by kernel_rfl) ⟨(by decide), trivial⟩ ?_
        refine At.step hm ht ⟨[], [], [.nil true 0 2 (.pair (.int .u32) (.int .u32)) none, .nil true 1 2 (.pair (.int .u64) (.int .u64)) none], [0, 2, 7, 9, 10], [0, 1]⟩ 13 ⟨[(0, .one (.c (.d (.int .u32 wait)))), (2, .one (.c (.d (.sl (.pair (.int .u32) (.int .i64)) l)))), (7, .one (.c (.ptr 0 0))), (9, .one (.c (.ptr 1 0))), (10, .one (.c (.d (.int .i64 0))))], [], [(0, [.d (.int .u32 r356_0.1), .d (.int .i64 r356_0.2), .d (.sl (.pair (.int .u32) (.int .u32)) [])]), (1, [.d (.int .u32 wait), .d (.int .i64 most), .d (.sl (.pair (.int .u64) (.int .u64)) [])])], 2⟩ [] (by kernel_rfl) trivial ?_
        obtain ⟨w667, cw667, h⟩ := bindS h
        refine f7_broughamlaw31_SackPlays_L13_ok n wait l 0 r356_0.1 r356_0.2 [] wait most [] w667 cw667 _ ?_
        rcases w667 with e668 | e669
        · have h := Option.some.inj h
          subst h
          rfl
        · show At Go.Proofs.Try.prog Go.Proofs.Try.f7 0 19 ⟨[(7, .one (.c (.ptr 0 0))), (9, .one (.c (.ptr 1 0)))], [], [(0, [.d (.int .u32 e669.1), .d (.int .i64 e669.2.1), .d (.sl (.pair (.int .u32) (.int .u32)) e669.2.2.1)]), (1, [.d (.int .u32 e669.2.2.2.1), .d (.int .i64 e669.2.2.2.2.1), .d (.sl (.pair (.int .u64) (.int .u64)) e669.2.2.2.2.2)])], 2⟩ _
          obtain ⟨r670_0, cr670_0, h⟩ := bindS h
          refine At.step hm ht ⟨[(1, .call [] [] (f38_broughamref31_Blocks_out r670_0))], [], [], [7, 9, 12], [0, 1, 3]⟩ 20 ⟨[(7, .one (.c (.ptr 0 0))), (9, .one (.c (.ptr 1 0))), (12, .one (.c (.own 2 (.pair (.int .u32) (.int .u32)) r670_0)))], [(2, some ⟨161, 0⟩)], [(0, [.d (.int .u32 e669.1), .d (.int .i64 e669.2.1), .d (.sl (.pair (.int .u32) (.int .u32)) e669.2.2.1)]), (1, [.d (.int .u32 e669.2.2.2.1), .d (.int .i64 e669.2.2.2.2.1), .d (.sl (.pair (.int .u64) (.int .u64)) e669.2.2.2.2.2)])], 3⟩ [FnOK Go.Proofs.Try.prog 38 (f38_broughamref31_Blocks_in e669.2.2.2.1 e669.2.2.2.2.1 e669.2.2.2.2.2) (f38_broughamref31_Blocks_out r670_0)] (by kernel_rfl) ⟨(f38_broughamref31_Blocks_ok n e669.2.2.2.1 e669.2.2.2.2.1 e669.2.2.2.2.2 r670_0 cr670_0), trivial⟩ ?_
          rcases iteS h with ⟨b671_e0, h⟩ | ⟨b671_e0, h⟩
          · refine At.step hm ht ⟨[], [true], [], [7, 9, 12], [0, 1, 2]⟩ 21 ⟨[(7, .one (.c (.ptr 0 0))), (9, .one (.c (.ptr 1 0))), (12, .one (.c (.own 2 (.pair (.int .u32) (.int .u32)) r670_0)))], [(2, some ⟨161, 0⟩)], [(0, [.d (.int .u32 e669.1), .d (.int .i64 e669.2.1), .d (.sl (.pair (.int .u32) (.int .u32)) e669.2.2.1)]), (1, [.d (.int .u32 e669.2.2.2.1), .d (.int .i64 e669.2.2.2.2.1), .d (.sl (.pair (.int .u64) (.int .u64)) e669.2.2.2.2.2)])], 3⟩ [(decide ((((r670_0.length : Nat) : Int) : Int) > 4)) = true] (by kernel_rfl) ⟨b671_e0, trivial⟩ ?_
            obtain ⟨g672_0, h⟩ := ifS h
            refine At.step hm ht ⟨[], [], [], [7, 9, 12], [0, 1]⟩ 22 ⟨[(7, .one (.c (.ptr 0 0))), (9, .one (.c (.ptr 1 0))), (12, .one (.c (.d (.sl (.pair (.int .u32) (.int .u32)) (r670_0.take 4)))))], [], [(0, [.d (.int .u32 e669.1), .d (.int .i64 e669.2.1), .d (.sl (.pair (.int .u32) (.int .u32)) e669.2.2.1)]), (1, [.d (.int .u32 e669.2.2.2.1), .d (.int .i64 e669.2.2.2.2.1), .d (.sl (.pair (.int .u64) (.int .u64)) e669.2.2.2.2.2)])], 2⟩ [cutOk r670_0.length none (some 4) none] (by kernel_rfl) ⟨g672_0, trivial⟩ ?_
            obtain ⟨r673_0, cr673_0, h⟩ := bindS h
            refine At.step hm ht ⟨[(1, .call [0] [] (f39_sack_Board_Say_out r673_0))], [], [], [9, 12, 13, 14], [1, 9, 5]⟩ 23 ⟨[(9, .one (.c (.ptr 0 0))), (12, .one (.c (.d (.sl (.pair (.int .u32) (.int .u32)) (r670_0.take 4))))), (13, .one (.c (.ptr 1 0))), (14, .one (.c (.d (.bool r673_0.1))))], [(2, some ⟨5, 0⟩)], [(0, [.d (.int .u32 e669.2.2.2.1), .d (.int .i64 e669.2.2.2.2.1), .d (.sl (.pair (.int .u64) (.int .u64)) e669.2.2.2.2.2)]), (1, [.d (.int .u8 r673_0.2.2.2.2.1), .own 2 (.int .u8) r673_0.2.2.2.2.2])], 3⟩ [FnOK Go.Proofs.Try.prog 39 (f39_sack_Board_Say_in e669.1 e669.2.1 e669.2.2.1) (f39_sack_Board_Say_out r673_0), 0 + 2 ≤ 2] (by kernel_rfl) ⟨(f39_sack_Board_Say_ok n e669.1 e669.2.1 e669.2.2.1 r673_0 cr673_0), (by decide), trivial⟩ ?_
            obtain ⟨r674_0, cr674_0, h⟩ := bindS h
            refine At.step hm ht ⟨[(3, .call [] [] (f40_broughamref31_Option_out r674_0))], [], [], [13, 14, 15, 16], [1, 6, 2]⟩ 24 ⟨[(13, .one (.c (.ptr 0 0))), (14, .one (.c (.d (.bool r673_0.1)))), (15, .one (.c (.own 1 (.int .u8) r674_0.1))), (16, .one (.c (.d (.bool r674_0.2))))], [(1, some ⟨5, 0⟩), (2, some ⟨5, 0⟩)], [(0, [.d (.int .u8 r673_0.2.2.2.2.1), .own 2 (.int .u8) r673_0.2.2.2.2.2])], 3⟩ [FnOK Go.Proofs.Try.prog 40 (f40_broughamref31_Option_in e669.2.2.2.1 (r670_0.take 4)) (f40_broughamref31_Option_out r674_0)] (by kernel_rfl) ⟨(f40_broughamref31_Option_ok n e669.2.2.2.1 (r670_0.take 4) r674_0 cr674_0), trivial⟩ ?_
            rcases iteS h with ⟨b675_3, h⟩ | ⟨b675_3, h⟩
            · rcases iteS h with ⟨b675_11, h⟩ | ⟨b675_11, h⟩
              · obtain ⟨r675_0, cr675_0, h⟩ := bindS h
                have h := Option.some.inj h
                subst h
                exact At.fin hm ht ⟨[(3, .b true), (11, .b true), (12, .call [] [] (f41_broughamlaw31_alive_out r675_0))], [], [], [6], []⟩ [(r673_0.1 == r674_0.2) = true, ((strOfNums r673_0.2.2.2.2.2).toList == (strOfNums r674_0.1).toList) = true, FnOK Go.Proofs.Try.prog 41 (f41_broughamlaw31_alive_in) (f41_broughamlaw31_alive_out r675_0)] (by kernel_rfl) ⟨b675_3, b675_11, (f41_broughamlaw31_alive_ok n r675_0 cr675_0), trivial⟩
              · have h := Option.some.inj h
                subst h
                exact At.fin hm ht ⟨[(3, .b true), (11, .b false)], [], [], [6], []⟩ [(r673_0.1 == r674_0.2) = true, ((strOfNums r673_0.2.2.2.2.2).toList == (strOfNums r674_0.1).toList) = false] (by kernel_rfl) ⟨b675_3, b675_11, trivial⟩
            · have h := Option.some.inj h
              subst h
              exact At.fin hm ht ⟨[(3, .b false)], [], [], [6], []⟩ [(r673_0.1 == r674_0.2) = false] (by kernel_rfl) ⟨b675_3, trivial⟩
          · refine At.step hm ht ⟨[], [false], [], [7, 9, 12], [0, 1, 2]⟩ 22 ⟨[(7, .one (.c (.ptr 0 0))), (9, .one (.c (.ptr 1 0))), (12, .one (.c (.own 2 (.pair (.int .u32) (.int .u32)) r670_0)))], [(2, some ⟨161, 0⟩)], [(0, [.d (.int .u32 e669.1), .d (.int .i64 e669.2.1), .d (.sl (.pair (.int .u32) (.int .u32)) e669.2.2.1)]), (1, [.d (.int .u32 e669.2.2.2.1), .d (.int .i64 e669.2.2.2.2.1), .d (.sl (.pair (.int .u64) (.int .u64)) e669.2.2.2.2.2)])], 3⟩ [(decide ((((r670_0.length : Nat) : Int) : Int) > 4)) = false] (by kernel_rfl) ⟨b671_e0, trivial⟩ ?_
            obtain ⟨r676_0, cr676_0, h⟩ := bindS h
            refine At.step hm ht ⟨[(1, .call [0] [] (f39_sack_Board_Say_out r676_0))], [], [], [9, 12, 13, 14], [1, 2, 10, 6]⟩ 23 ⟨[(9, .one (.c (.ptr 0 0))), (12, .one (.c (.own 1 (.pair (.int .u32) (.int .u32)) r670_0))), (13, .one (.c (.ptr 2 0))), (14, .one (.c (.d (.bool r676_0.1))))], [(1, some ⟨161, 0⟩), (3, some ⟨5, 0⟩)], [(0, [.d (.int .u32 e669.2.2.2.1), .d (.int .i64 e669.2.2.2.2.1), .d (.sl (.pair (.int .u64) (.int .u64)) e669.2.2.2.2.2)]), (2, [.d (.int .u8 r676_0.2.2.2.2.1), .own 3 (.int .u8) r676_0.2.2.2.2.2])], 4⟩ [FnOK Go.Proofs.Try.prog 39 (f39_sack_Board_Say_in e669.1 e669.2.1 e669.2.2.1) (f39_sack_Board_Say_out r676_0), 0 + 2 ≤ 2] (by kernel_rfl) ⟨(f39_sack_Board_Say_ok n e669.1 e669.2.1 e669.2.2.1 r676_0 cr676_0), (by decide), trivial⟩ ?_
            obtain ⟨r677_0, cr677_0, h⟩ := bindS h
            refine At.step hm ht ⟨[(3, .call [] [] (f40_broughamref31_Option_out r677_0))], [], [], [13, 14, 15, 16], [2, 7, 3]⟩ 24 ⟨[(13, .one (.c (.ptr 0 0))), (14, .one (.c (.d (.bool r676_0.1)))), (15, .one (.c (.own 1 (.int .u8) r677_0.1))), (16, .one (.c (.d (.bool r677_0.2))))], [(1, some ⟨5, 0⟩), (2, some ⟨5, 0⟩)], [(0, [.d (.int .u8 r676_0.2.2.2.2.1), .own 2 (.int .u8) r676_0.2.2.2.2.2])], 3⟩ [FnOK Go.Proofs.Try.prog 40 (f40_broughamref31_Option_in e669.2.2.2.1 r670_0) (f40_broughamref31_Option_out r677_0)] (by kernel_rfl) ⟨(f40_broughamref31_Option_ok n e669.2.2.2.1 r670_0 r677_0 cr677_0), trivial⟩ ?_
            rcases iteS h with ⟨b678_3, h⟩ | ⟨b678_3, h⟩
            · rcases iteS h with ⟨b678_11, h⟩ | ⟨b678_11, h⟩
              · obtain ⟨r678_0, cr678_0, h⟩ := bindS h
                have h := Option.some.inj h
                subst h
                exact At.fin hm ht ⟨[(3, .b true), (11, .b true), (12, .call [] [] (f41_broughamlaw31_alive_out r678_0))], [], [], [6], []⟩ [(r676_0.1 == r677_0.2) = true, ((strOfNums r676_0.2.2.2.2.2).toList == (strOfNums r677_0.1).toList) = true, FnOK Go.Proofs.Try.prog 41 (f41_broughamlaw31_alive_in) (f41_broughamlaw31_alive_out r678_0)] (by kernel_rfl) ⟨b678_3, b678_11, (f41_broughamlaw31_alive_ok n r678_0 cr678_0), trivial⟩
              · have h := Option.some.inj h
                subst h
                exact At.fin hm ht ⟨[(3, .b true), (11, .b false)], [], [], [6], []⟩ [(r676_0.1 == r677_0.2) = true, ((strOfNums r676_0.2.2.2.2.2).toList == (strOfNums r677_0.1).toList) = false] (by kernel_rfl) ⟨b678_3, b678_11, trivial⟩
            · have h := Option.some.inj h
              subst h
              exact At.fin hm ht ⟨[(3, .b false)], [], [], [6], []⟩ [(r676_0.1 == r677_0.2) = false] (by kernel_rfl) ⟨b678_3, trivial⟩
end Go.Proofs.YtjoibacjpapncaaF31b
