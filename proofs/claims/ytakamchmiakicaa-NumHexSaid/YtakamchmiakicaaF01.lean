/- What the functions compute, and that they do: printed by a program of this session (zgen.py), proved by Zed. -/
import Derived.Test.YtakamchmiakicaaProg
import Derived.Test.YtakamchmiakicaaZedYa
import Derived.Test.YtakamchmiakicaaLeaf
namespace Go.Proofs.YtakamchmiakicaaF01
open Go Zed Go.Proofs.YtakamchmiakicaaLeaf
set_option maxRecDepth 100000
set_option linter.unusedVariables false
def tab : Tab := [(3, ⟨.int .i64, 1, 8, [.int .i64 0], some (.int .i64), none⟩), (5, ⟨.int .u8, 1, 1, [.int .u8 0], some (.int .u8), none⟩), (9, ⟨.str, 1, 16, [.str (⟨#[]⟩ : ByteArray)], some .str, none⟩), (22, ⟨.int .i64, 1, 8, [.int .i64 0], some (.int .i64), none⟩), (30, ⟨.slice 5, 1, 24, [.sl .unit []], some (.slice (.int .u8)), none⟩), (49, ⟨.slice 9, 1, 24, [.sl .unit []], some (.slice .str), none⟩)]
theorem ht : TabOk Go.Proofs.Try.prog tab := tabOk_of (ts := [3, 5, 9, 22, 30, 49]) (by kernel_rfl)
theorem hm : Go.Proofs.Try.prog.follows .mixedOrders = true := by kernel_rfl
/-! brougham/broughamref01.Parse -/
def f6_broughamref01_Parse_in (s : ByteArray) : Inn := ⟨[.c (.d (.str s))], [], [], 0⟩
def f6_broughamref01_Parse_out (r : Int × Int) : Out := ⟨.tup [.c (.d (.int .i64 r.1)), .c (.d (.int .i64 r.2))], [], [], 0⟩
def f6_broughamref01_Parse_L3 : Nat → ByteArray → Int → Int → Option ((Int × Int) ⊕ (ByteArray × Int))
  | 0, _, _, _ => none
  | n + 1, s, n_, i =>
    if (decide ((i : Int) < ((s.size : Nat) : Int))) = true then
      if (decide ((i : Int) > 9)) = true then
        some (.inl (0, 10))
      else
        if (0 : Int) ≤ i ∧ i < (((s).size : Nat) : Int) then
        if (decide (((byteAt s i) : Int) < 48)) = true then
          some (.inl (0, 10))
        else
          if (0 : Int) ≤ i ∧ i < (((s).size : Nat) : Int) then
          if (decide (((byteAt s i) : Int) > 57)) = true then
            some (.inl (0, 10))
          else
            if (0 : Int) ≤ 0 ∧ 0 < (((s).size : Nat) : Int) then
            if (((byteAt s 0) : Int) == 48) = true then
              if (decide ((((s.size : Nat) : Int) : Int) > 1)) = true then
                some (.inl (0, 10))
              else
                if (0 : Int) ≤ i ∧ i < (((s).size : Nat) : Int) then
                f6_broughamref01_Parse_L3 n s (IntKind.wrap .i64 ((IntKind.wrap .i64 ((IntKind.wrap .i64 (n_ * 10)) + (IntKind.wrap .i64 (byteAt s i)))) - 48)) (IntKind.wrap .i64 (i + 1))
                else none
            else
              if (0 : Int) ≤ i ∧ i < (((s).size : Nat) : Int) then
              f6_broughamref01_Parse_L3 n s (IntKind.wrap .i64 ((IntKind.wrap .i64 ((IntKind.wrap .i64 (n_ * 10)) + (IntKind.wrap .i64 (byteAt s i)))) - 48)) (IntKind.wrap .i64 (i + 1))
              else none
            else none
          else none
        else none
    else
      some (.inr ((s, n_)))
def f6_broughamref01_Parse_L3_k (w : (Int × Int) ⊕ (ByteArray × Int)) (o : Out) : Prop := match w with
  | .inl e => o = f6_broughamref01_Parse_out e
  | .inr e => At Go.Proofs.Try.prog Go.Proofs.Try.f6 0 8 ⟨[(0, .one (.c (.d (.str e.1)))), (4, .one (.c (.d (.int .i64 e.2))))], [], [], 0⟩ o
theorem f6_broughamref01_Parse_L3_ok (n : Nat) : ∀ (s : ByteArray) (n_ : Int) (i : Int) (w : (Int × Int) ⊕ (ByteArray × Int)) (h : f6_broughamref01_Parse_L3 n s n_ i = some w) (o : Out) (hk : f6_broughamref01_Parse_L3_k w o), At Go.Proofs.Try.prog Go.Proofs.Try.f6 0 3 ⟨[(0, .one (.c (.d (.str s)))), (4, .one (.c (.d (.int .i64 n_)))), (5, .one (.c (.d (.int .i64 i))))], [], [], 0⟩ o := by
  induction n with
  | zero => intro s n_ i w h; rw [f6_broughamref01_Parse_L3] at h; cases h
  | succ n ih =>
    intro s n_ i w h o hk
    rw [f6_broughamref01_Parse_L3] at h
    rcases iteS h with ⟨b9_e0, h⟩ | ⟨b9_e0, h⟩
    · refine At.step hm ht ⟨[], [true], [], [0, 4, 5], []⟩ 5 ⟨[(0, .one (.c (.d (.str s)))), (4, .one (.c (.d (.int .i64 n_)))), (5, .one (.c (.d (.int .i64 i))))], [], [], 0⟩ [(decide ((i : Int) < ((s.size : Nat) : Int))) = true] (by kernel_rfl) ⟨b9_e0, trivial⟩ ?_
      rcases iteS h with ⟨b10_2, h⟩ | ⟨b10_2, h⟩
      · refine At.step hm ht ⟨[(2, .b true)], [true], [], [], []⟩ 6 ⟨[], [], [], 0⟩ [(decide ((i : Int) > 9)) = true, true = true] (by kernel_rfl) ⟨b10_2, rfl, trivial⟩ ?_
        have h := Option.some.inj h
        subst h
        have hk : o = f6_broughamref01_Parse_out (0, 10) := hk
        subst hk
        exact At.fin hm ht ⟨[], [], [], [2, 3], []⟩ [] (by kernel_rfl) trivial
      · obtain ⟨g10_0, h⟩ := ifS h
        rcases iteS h with ⟨b10_8, h⟩ | ⟨b10_8, h⟩
        · refine At.step hm ht ⟨[(2, .b false), (8, .b true)], [true], [], [], []⟩ 6 ⟨[], [], [], 0⟩ [(decide ((i : Int) > 9)) = false, (0 : Int) ≤ i ∧ i < (((s).size : Nat) : Int), (decide (((byteAt s i) : Int) < 48)) = true, true = true] (by kernel_rfl) ⟨b10_2, g10_0, b10_8, rfl, trivial⟩ ?_
          have h := Option.some.inj h
          subst h
          have hk : o = f6_broughamref01_Parse_out (0, 10) := hk
          subst hk
          exact At.fin hm ht ⟨[], [], [], [2, 3], []⟩ [] (by kernel_rfl) trivial
        · obtain ⟨g10_1, h⟩ := ifS h
          rcases iteS h with ⟨b10_14, h⟩ | ⟨b10_14, h⟩
          · refine At.step hm ht ⟨[(2, .b false), (8, .b false), (14, .b true)], [true], [], [], []⟩ 6 ⟨[], [], [], 0⟩ [(decide ((i : Int) > 9)) = false, (0 : Int) ≤ i ∧ i < (((s).size : Nat) : Int), (decide (((byteAt s i) : Int) < 48)) = false, (0 : Int) ≤ i ∧ i < (((s).size : Nat) : Int), (decide (((byteAt s i) : Int) > 57)) = true, true = true] (by kernel_rfl) ⟨b10_2, g10_0, b10_8, g10_1, b10_14, rfl, trivial⟩ ?_
            have h := Option.some.inj h
            subst h
            have hk : o = f6_broughamref01_Parse_out (0, 10) := hk
            subst hk
            exact At.fin hm ht ⟨[], [], [], [2, 3], []⟩ [] (by kernel_rfl) trivial
          · obtain ⟨g10_2, h⟩ := ifS h
            rcases iteS h with ⟨b10_18, h⟩ | ⟨b10_18, h⟩
            · rcases iteS h with ⟨b10_e0, h⟩ | ⟨b10_e0, h⟩
              · refine At.step hm ht ⟨[(2, .b false), (8, .b false), (14, .b false), (18, .b true)], [true], [], [], []⟩ 6 ⟨[], [], [], 0⟩ [(decide ((i : Int) > 9)) = false, (0 : Int) ≤ i ∧ i < (((s).size : Nat) : Int), (decide (((byteAt s i) : Int) < 48)) = false, (0 : Int) ≤ i ∧ i < (((s).size : Nat) : Int), (decide (((byteAt s i) : Int) > 57)) = false, (0 : Int) ≤ 0 ∧ 0 < (((s).size : Nat) : Int), (((byteAt s 0) : Int) == 48) = true, (decide ((((s.size : Nat) : Int) : Int) > 1)) = true] (by kernel_rfl) ⟨b10_2, g10_0, b10_8, g10_1, b10_14, g10_2, b10_18, b10_e0, trivial⟩ ?_
                have h := Option.some.inj h
                subst h
                have hk : o = f6_broughamref01_Parse_out (0, 10) := hk
                subst hk
                exact At.fin hm ht ⟨[], [], [], [2, 3], []⟩ [] (by kernel_rfl) trivial
              · refine At.step hm ht ⟨[(2, .b false), (8, .b false), (14, .b false), (18, .b true)], [false], [], [0, 4, 5], []⟩ 7 ⟨[(0, .one (.c (.d (.str s)))), (4, .one (.c (.d (.int .i64 n_)))), (5, .one (.c (.d (.int .i64 i))))], [], [], 0⟩ [(decide ((i : Int) > 9)) = false, (0 : Int) ≤ i ∧ i < (((s).size : Nat) : Int), (decide (((byteAt s i) : Int) < 48)) = false, (0 : Int) ≤ i ∧ i < (((s).size : Nat) : Int), (decide (((byteAt s i) : Int) > 57)) = false, (0 : Int) ≤ 0 ∧ 0 < (((s).size : Nat) : Int), (((byteAt s 0) : Int) == 48) = true, (decide ((((s.size : Nat) : Int) : Int) > 1)) = false] (by kernel_rfl) ⟨b10_2, g10_0, b10_8, g10_1, b10_14, g10_2, b10_18, b10_e0, trivial⟩ ?_
                obtain ⟨g15_0, h⟩ := ifS h
                refine At.step hm ht ⟨[], [], [], [0, 4, 5], []⟩ 4 ⟨[(0, .one (.c (.d (.str s)))), (4, .one (.c (.d (.int .i64 (IntKind.wrap .i64 ((IntKind.wrap .i64 ((IntKind.wrap .i64 (n_ * 10)) + (IntKind.wrap .i64 (byteAt s i)))) - 48)))))), (5, .one (.c (.d (.int .i64 i))))], [], [], 0⟩ [(0 : Int) ≤ i ∧ i < (((s).size : Nat) : Int)] (by kernel_rfl) ⟨g15_0, trivial⟩ ?_
                refine At.step hm ht ⟨[], [], [], [0, 4, 5], []⟩ 3 ⟨[(0, .one (.c (.d (.str s)))), (4, .one (.c (.d (.int .i64 (IntKind.wrap .i64 ((IntKind.wrap .i64 ((IntKind.wrap .i64 (n_ * 10)) + (IntKind.wrap .i64 (byteAt s i)))) - 48)))))), (5, .one (.c (.d (.int .i64 (IntKind.wrap .i64 (i + 1))))))], [], [], 0⟩ [] (by kernel_rfl) trivial ?_
                exact ih s (IntKind.wrap .i64 ((IntKind.wrap .i64 ((IntKind.wrap .i64 (n_ * 10)) + (IntKind.wrap .i64 (byteAt s i)))) - 48)) (IntKind.wrap .i64 (i + 1)) w h o hk
            · refine At.step hm ht ⟨[(2, .b false), (8, .b false), (14, .b false), (18, .b false)], [false], [], [0, 4, 5], []⟩ 7 ⟨[(0, .one (.c (.d (.str s)))), (4, .one (.c (.d (.int .i64 n_)))), (5, .one (.c (.d (.int .i64 i))))], [], [], 0⟩ [(decide ((i : Int) > 9)) = false, (0 : Int) ≤ i ∧ i < (((s).size : Nat) : Int), (decide (((byteAt s i) : Int) < 48)) = false, (0 : Int) ≤ i ∧ i < (((s).size : Nat) : Int), (decide (((byteAt s i) : Int) > 57)) = false, (0 : Int) ≤ 0 ∧ 0 < (((s).size : Nat) : Int), (((byteAt s 0) : Int) == 48) = false, false = false] (by kernel_rfl) ⟨b10_2, g10_0, b10_8, g10_1, b10_14, g10_2, b10_18, rfl, trivial⟩ ?_
              obtain ⟨g17_0, h⟩ := ifS h
              refine At.step hm ht ⟨[], [], [], [0, 4, 5], []⟩ 4 ⟨[(0, .one (.c (.d (.str s)))), (4, .one (.c (.d (.int .i64 (IntKind.wrap .i64 ((IntKind.wrap .i64 ((IntKind.wrap .i64 (n_ * 10)) + (IntKind.wrap .i64 (byteAt s i)))) - 48)))))), (5, .one (.c (.d (.int .i64 i))))], [], [], 0⟩ [(0 : Int) ≤ i ∧ i < (((s).size : Nat) : Int)] (by kernel_rfl) ⟨g17_0, trivial⟩ ?_
              refine At.step hm ht ⟨[], [], [], [0, 4, 5], []⟩ 3 ⟨[(0, .one (.c (.d (.str s)))), (4, .one (.c (.d (.int .i64 (IntKind.wrap .i64 ((IntKind.wrap .i64 ((IntKind.wrap .i64 (n_ * 10)) + (IntKind.wrap .i64 (byteAt s i)))) - 48)))))), (5, .one (.c (.d (.int .i64 (IntKind.wrap .i64 (i + 1))))))], [], [], 0⟩ [] (by kernel_rfl) trivial ?_
              exact ih s (IntKind.wrap .i64 ((IntKind.wrap .i64 ((IntKind.wrap .i64 (n_ * 10)) + (IntKind.wrap .i64 (byteAt s i)))) - 48)) (IntKind.wrap .i64 (i + 1)) w h o hk
    · refine At.step hm ht ⟨[], [false], [], [0, 4], []⟩ 8 ⟨[(0, .one (.c (.d (.str s)))), (4, .one (.c (.d (.int .i64 n_))))], [], [], 0⟩ [(decide ((i : Int) < ((s.size : Nat) : Int))) = false] (by kernel_rfl) ⟨b9_e0, trivial⟩ ?_
      have h := Option.some.inj h
      subst h
      exact hk
def f6_broughamref01_Parse (n : Nat) (s : ByteArray) : Option (Int × Int) :=
  (f6_broughamref01_Parse_L3 n s 0 0).bind fun w19 =>
  match w19 with
  | .inl e20 =>
    some (e20.1, e20.2)
  | .inr e21 =>
    if (e21.1.toList == (⟨#[]⟩ : ByteArray).toList) = true then
      some (0, 10)
    else
      if (decide ((e21.2 : Int) > 2147483647)) = true then
        some (0, 10)
      else
        some (e21.2, 0)
theorem f6_broughamref01_Parse_ok (n : Nat) (s : ByteArray) (r : Int × Int) (h : f6_broughamref01_Parse n s = some r) : FnOK Go.Proofs.Try.prog 6 (f6_broughamref01_Parse_in s) (f6_broughamref01_Parse_out r) := by
  unfold f6_broughamref01_Parse at h
  refine At.fn (r := 0) Go.Proofs.Try.func6 rfl (by kernel_rfl) rfl rfl (by kernel_rfl) ?_
  show At Go.Proofs.Try.prog Go.Proofs.Try.f6 0 0 ⟨[(0, .one (.c (.d (.str s))))], [], [], 0⟩ _
  refine At.step hm ht ⟨[], [], [], [0], []⟩ 1 ⟨[(0, .one (.c (.d (.str s))))], [], [], 0⟩ [] (by kernel_rfl) trivial ?_
  refine At.step hm ht ⟨[], [], [], [0, 4], []⟩ 2 ⟨[(0, .one (.c (.d (.str s)))), (4, .one (.c (.d (.int .i64 0))))], [], [], 0⟩ [] (by kernel_rfl) trivial ?_
  refine At.step hm ht ⟨[], [], [], [0, 4, 5], []⟩ 3 ⟨[(0, .one (.c (.d (.str s)))), (4, .one (.c (.d (.int .i64 0)))), (5, .one (.c (.d (.int .i64 0))))], [], [], 0⟩ [] (by kernel_rfl) trivial ?_
  obtain ⟨w19, cw19, h⟩ := bindS h
  refine f6_broughamref01_Parse_L3_ok n s 0 0 w19 cw19 _ ?_
  rcases w19 with e20 | e21
  · have h := Option.some.inj h
    subst h
    rfl
  · show At Go.Proofs.Try.prog Go.Proofs.Try.f6 0 8 ⟨[(0, .one (.c (.d (.str e21.1)))), (4, .one (.c (.d (.int .i64 e21.2))))], [], [], 0⟩ _
    rcases iteS h with ⟨b22_2, h⟩ | ⟨b22_2, h⟩
    · refine At.step hm ht ⟨[(2, .b true)], [true], [], [], []⟩ 9 ⟨[], [], [], 0⟩ [(e21.1.toList == (⟨#[]⟩ : ByteArray).toList) = true, true = true] (by kernel_rfl) ⟨b22_2, rfl, trivial⟩ ?_
      have h := Option.some.inj h
      subst h
      exact At.fin hm ht ⟨[], [], [], [2, 3], []⟩ [] (by kernel_rfl) trivial
    · rcases iteS h with ⟨b22_e0, h⟩ | ⟨b22_e0, h⟩
      · refine At.step hm ht ⟨[(2, .b false)], [true], [], [], []⟩ 9 ⟨[], [], [], 0⟩ [(e21.1.toList == (⟨#[]⟩ : ByteArray).toList) = false, (decide ((e21.2 : Int) > 2147483647)) = true] (by kernel_rfl) ⟨b22_2, b22_e0, trivial⟩ ?_
        have h := Option.some.inj h
        subst h
        exact At.fin hm ht ⟨[], [], [], [2, 3], []⟩ [] (by kernel_rfl) trivial
      · refine At.step hm ht ⟨[(2, .b false)], [false], [], [4], []⟩ 10 ⟨[(4, .one (.c (.d (.int .i64 e21.2))))], [], [], 0⟩ [(e21.1.toList == (⟨#[]⟩ : ByteArray).toList) = false, (decide ((e21.2 : Int) > 2147483647)) = false] (by kernel_rfl) ⟨b22_2, b22_e0, trivial⟩ ?_
        have h := Option.some.inj h
        subst h
        exact At.fin hm ht ⟨[], [], [], [2, 3], []⟩ [] (by kernel_rfl) trivial
/-! brougham/broughamref01.Text -/
def f8_broughamref01_Text_in (n_ : Int) : Inn := ⟨[.c (.d (.int .i64 n_))], [], [], 0⟩
def f8_broughamref01_Text_out (r : ByteArray) : Out := ⟨.one (.c (.d (.str r))), [], [], 0⟩
def f8_broughamref01_Text : Nat → Int → Option (ByteArray)
  | 0, _ => none
  | n + 1, n_ =>
    if (decide ((n_ : Int) < 10)) = true then
      if (decide ((n_ : Int) < 0)) = true then
        if cutOk (⟨#[48, 49, 50, 51, 52, 53, 54, 55, 56, 57]⟩ : ByteArray).size (some 0) (some (IntKind.wrap .i64 (0 + 1))) none then
        some ((⟨#[48, 49, 50, 51, 52, 53, 54, 55, 56, 57]⟩ : ByteArray).extract 0 (IntKind.wrap .i64 (0 + 1)).toNat)
        else none
      else
        if cutOk (⟨#[48, 49, 50, 51, 52, 53, 54, 55, 56, 57]⟩ : ByteArray).size (some n_) (some (IntKind.wrap .i64 (n_ + 1))) none then
        some ((⟨#[48, 49, 50, 51, 52, 53, 54, 55, 56, 57]⟩ : ByteArray).extract n_.toNat (IntKind.wrap .i64 (n_ + 1)).toNat)
        else none
    else
      (f8_broughamref01_Text n (IntKind.wrap .i64 (Int.tdiv n_ 10))).bind fun r34_0 =>
      if cutOk (⟨#[48, 49, 50, 51, 52, 53, 54, 55, 56, 57]⟩ : ByteArray).size (some (Int.tmod n_ 10)) (some (IntKind.wrap .i64 ((Int.tmod n_ 10) + 1))) none then
      if r34_0.size + ((⟨#[48, 49, 50, 51, 52, 53, 54, 55, 56, 57]⟩ : ByteArray).extract (Int.tmod n_ 10).toNat (IntKind.wrap .i64 ((Int.tmod n_ 10) + 1)).toNat).size ≤ 9223372036854775807 then
      some (r34_0 ++ ((⟨#[48, 49, 50, 51, 52, 53, 54, 55, 56, 57]⟩ : ByteArray).extract (Int.tmod n_ 10).toNat (IntKind.wrap .i64 ((Int.tmod n_ 10) + 1)).toNat))
      else none
      else none
theorem f8_broughamref01_Text_ok (n : Nat) : ∀ (n_ : Int) (r : ByteArray) (h : f8_broughamref01_Text n n_ = some r), FnOK Go.Proofs.Try.prog 8 (f8_broughamref01_Text_in n_) (f8_broughamref01_Text_out r) := by
  induction n with
  | zero => intro n_ r h; rw [f8_broughamref01_Text] at h; cases h
  | succ n ih =>
    intro n_ r h
    rw [f8_broughamref01_Text] at h
    refine At.fn (r := 0) Go.Proofs.Try.func8 rfl (by kernel_rfl) rfl rfl (by kernel_rfl) ?_
    show At Go.Proofs.Try.prog Go.Proofs.Try.f8 0 0 ⟨[(0, .one (.c (.d (.int .i64 n_))))], [], [], 0⟩ _
    refine At.step hm ht ⟨[], [], [], [0], []⟩ 1 ⟨[(0, .one (.c (.d (.int .i64 n_))))], [], [], 0⟩ [] (by kernel_rfl) trivial ?_
    rcases iteS h with ⟨b29_e0, h⟩ | ⟨b29_e0, h⟩
    · refine At.step hm ht ⟨[], [true], [], [0], []⟩ 2 ⟨[(0, .one (.c (.d (.int .i64 n_))))], [], [], 0⟩ [(decide ((n_ : Int) < 10)) = true] (by kernel_rfl) ⟨b29_e0, trivial⟩ ?_
      rcases iteS h with ⟨b30_e0, h⟩ | ⟨b30_e0, h⟩
      · refine At.step hm ht ⟨[], [true], [], [], []⟩ 3 ⟨[], [], [], 0⟩ [(decide ((n_ : Int) < 0)) = true] (by kernel_rfl) ⟨b30_e0, trivial⟩ ?_
        refine At.step hm ht ⟨[], [], [], [0], []⟩ 4 ⟨[(0, .one (.c (.d (.int .i64 0))))], [], [], 0⟩ [] (by kernel_rfl) trivial ?_
        obtain ⟨g32_0, h⟩ := ifS h
        have h := Option.some.inj h
        subst h
        exact At.fin hm ht ⟨[], [], [], [2], []⟩ [cutOk (⟨#[48, 49, 50, 51, 52, 53, 54, 55, 56, 57]⟩ : ByteArray).size (some 0) (some (IntKind.wrap .i64 (0 + 1))) none] (by kernel_rfl) ⟨g32_0, trivial⟩
      · refine At.step hm ht ⟨[], [false], [], [0], []⟩ 4 ⟨[(0, .one (.c (.d (.int .i64 n_))))], [], [], 0⟩ [(decide ((n_ : Int) < 0)) = false] (by kernel_rfl) ⟨b30_e0, trivial⟩ ?_
        obtain ⟨g33_0, h⟩ := ifS h
        have h := Option.some.inj h
        subst h
        exact At.fin hm ht ⟨[], [], [], [2], []⟩ [cutOk (⟨#[48, 49, 50, 51, 52, 53, 54, 55, 56, 57]⟩ : ByteArray).size (some n_) (some (IntKind.wrap .i64 (n_ + 1))) none] (by kernel_rfl) ⟨g33_0, trivial⟩
    · refine At.step hm ht ⟨[], [false], [], [0], []⟩ 5 ⟨[(0, .one (.c (.d (.int .i64 n_))))], [], [], 0⟩ [(decide ((n_ : Int) < 10)) = false] (by kernel_rfl) ⟨b29_e0, trivial⟩ ?_
      obtain ⟨r34_0, cr34_0, h⟩ := bindS h
      obtain ⟨g34_1, h⟩ := ifS h
      obtain ⟨g34_2, h⟩ := ifS h
      have h := Option.some.inj h
      subst h
      exact At.fin hm ht ⟨[(2, .call [] [] (f8_broughamref01_Text_out r34_0))], [], [], [2], []⟩ [(10 : Int) ≠ 0, FnOK Go.Proofs.Try.prog 8 (f8_broughamref01_Text_in (IntKind.wrap .i64 (Int.tdiv n_ 10))) (f8_broughamref01_Text_out r34_0), (10 : Int) ≠ 0, (10 : Int) ≠ 0, cutOk (⟨#[48, 49, 50, 51, 52, 53, 54, 55, 56, 57]⟩ : ByteArray).size (some (Int.tmod n_ 10)) (some (IntKind.wrap .i64 ((Int.tmod n_ 10) + 1))) none, r34_0.size + ((⟨#[48, 49, 50, 51, 52, 53, 54, 55, 56, 57]⟩ : ByteArray).extract (Int.tmod n_ 10).toNat (IntKind.wrap .i64 ((Int.tmod n_ 10) + 1)).toNat).size ≤ 9223372036854775807] (by kernel_rfl) ⟨(by decide), (ih (IntKind.wrap .i64 (Int.tdiv n_ 10)) r34_0 cr34_0), (by decide), (by decide), g34_1, g34_2, trivial⟩
/-! brougham/num.Line -/
def f14_num_Line_in (l : List ByteArray) : Inn := ⟨[.c (.d (.sl .str l))], [], [], 0⟩
def f14_num_Line_out (r : ByteArray) : Out := ⟨.one (.c (.d (.str r))), [], [], 0⟩
def f14_num_Line_L3 : Nat → (List ByteArray) → (List ByteArray) → Int → Int → Option (List ByteArray)
  | 0, _, _, _, _ => none
  | n + 1, out, t6, t7, t8 =>
    if (decide ((t8 : Int) < t7)) = true then
      if (0 : Int) ≤ t8 ∧ t8 < (((t6).length : Nat) : Int) then
      if (!((t6.getD t8.toNat ByteArray.empty).toList == (⟨#[]⟩ : ByteArray).toList)) = true then
        if out.length + [(t6.getD t8.toNat ByteArray.empty)].length ≤ maxLen ∧ (out.length + [(t6.getD t8.toNat ByteArray.empty)].length) * 16 ≤ 140737488355328 then
        f14_num_Line_L3 n (out ++ [(t6.getD t8.toNat ByteArray.empty)]) t6 t7 (IntKind.wrap .i64 (t8 + 1))
        else none
      else
        f14_num_Line_L3 n out t6 t7 (IntKind.wrap .i64 (t8 + 1))
      else none
    else
      some (out)
def f14_num_Line_L3_k (e : List ByteArray) (o : Out) : Prop := At Go.Proofs.Try.prog Go.Proofs.Try.f14 0 8 ⟨[(3, .one (.c (.own 0 .str e)))], [(0, some ⟨9, 0⟩)], [], 1⟩ o
theorem f14_num_Line_L3_ok (n : Nat) : ∀ (out : List ByteArray) (t6 : List ByteArray) (t7 : Int) (t8 : Int) (w : List ByteArray) (h : f14_num_Line_L3 n out t6 t7 t8 = some w) (o : Out) (hk : f14_num_Line_L3_k w o), At Go.Proofs.Try.prog Go.Proofs.Try.f14 0 3 ⟨[(3, .one (.c (.own 0 .str out))), (6, .one (.c (.d (.sl .str t6)))), (7, .one (.c (.d (.int .i64 t7)))), (8, .one (.c (.d (.int .i64 t8))))], [(0, some ⟨9, 0⟩)], [], 1⟩ o := by
  induction n with
  | zero => intro out t6 t7 t8 w h; rw [f14_num_Line_L3] at h; cases h
  | succ n ih =>
    intro out t6 t7 t8 w h o hk
    rw [f14_num_Line_L3] at h
    rcases iteS h with ⟨b49_e0, h⟩ | ⟨b49_e0, h⟩
    · refine At.step hm ht ⟨[], [true], [], [3, 6, 7, 8], [0]⟩ 4 ⟨[(3, .one (.c (.own 0 .str out))), (6, .one (.c (.d (.sl .str t6)))), (7, .one (.c (.d (.int .i64 t7)))), (8, .one (.c (.d (.int .i64 t8))))], [(0, some ⟨9, 0⟩)], [], 1⟩ [(decide ((t8 : Int) < t7)) = true] (by kernel_rfl) ⟨b49_e0, trivial⟩ ?_
      obtain ⟨g50_0, h⟩ := ifS h
      refine At.step hm ht ⟨[], [], [], [3, 5, 6, 7, 8], [0]⟩ 5 ⟨[(3, .one (.c (.own 0 .str out))), (5, .one (.c (.d (.str (t6.getD t8.toNat ByteArray.empty))))), (6, .one (.c (.d (.sl .str t6)))), (7, .one (.c (.d (.int .i64 t7)))), (8, .one (.c (.d (.int .i64 t8))))], [(0, some ⟨9, 0⟩)], [], 1⟩ [(0 : Int) ≤ t8 ∧ t8 < (((t6).length : Nat) : Int)] (by kernel_rfl) ⟨g50_0, trivial⟩ ?_
      rcases iteS h with ⟨b51_e0, h⟩ | ⟨b51_e0, h⟩
      · refine At.step hm ht ⟨[], [true], [], [3, 5, 6, 7, 8], [0]⟩ 6 ⟨[(3, .one (.c (.own 0 .str out))), (5, .one (.c (.d (.str (t6.getD t8.toNat ByteArray.empty))))), (6, .one (.c (.d (.sl .str t6)))), (7, .one (.c (.d (.int .i64 t7)))), (8, .one (.c (.d (.int .i64 t8))))], [(0, some ⟨9, 0⟩)], [], 1⟩ [(!((t6.getD t8.toNat ByteArray.empty).toList == (⟨#[]⟩ : ByteArray).toList)) = true] (by kernel_rfl) ⟨b51_e0, trivial⟩ ?_
        obtain ⟨g52_0, h⟩ := ifS h
        refine At.step hm ht ⟨[], [], [], [3, 6, 7, 8], [4]⟩ 7 ⟨[(3, .one (.c (.own 0 .str (out ++ [(t6.getD t8.toNat ByteArray.empty)])))), (6, .one (.c (.d (.sl .str t6)))), (7, .one (.c (.d (.int .i64 t7)))), (8, .one (.c (.d (.int .i64 t8))))], [(0, some ⟨9, 0⟩)], [], 1⟩ [out.length + [(t6.getD t8.toNat ByteArray.empty)].length ≤ maxLen ∧ (out.length + [(t6.getD t8.toNat ByteArray.empty)].length) * 16 ≤ 140737488355328] (by kernel_rfl) ⟨g52_0, trivial⟩ ?_
        refine At.step hm ht ⟨[], [], [], [3, 6, 7, 8], [0]⟩ 3 ⟨[(3, .one (.c (.own 0 .str (out ++ [(t6.getD t8.toNat ByteArray.empty)])))), (6, .one (.c (.d (.sl .str t6)))), (7, .one (.c (.d (.int .i64 t7)))), (8, .one (.c (.d (.int .i64 (IntKind.wrap .i64 (t8 + 1))))))], [(0, some ⟨9, 0⟩)], [], 1⟩ [] (by kernel_rfl) trivial ?_
        exact ih (out ++ [(t6.getD t8.toNat ByteArray.empty)]) t6 t7 (IntKind.wrap .i64 (t8 + 1)) w h o hk
      · refine At.step hm ht ⟨[], [false], [], [3, 6, 7, 8], [0]⟩ 7 ⟨[(3, .one (.c (.own 0 .str out))), (6, .one (.c (.d (.sl .str t6)))), (7, .one (.c (.d (.int .i64 t7)))), (8, .one (.c (.d (.int .i64 t8))))], [(0, some ⟨9, 0⟩)], [], 1⟩ [(!((t6.getD t8.toNat ByteArray.empty).toList == (⟨#[]⟩ : ByteArray).toList)) = false] (by kernel_rfl) ⟨b51_e0, trivial⟩ ?_
        refine At.step hm ht ⟨[], [], [], [3, 6, 7, 8], [0]⟩ 3 ⟨[(3, .one (.c (.own 0 .str out))), (6, .one (.c (.d (.sl .str t6)))), (7, .one (.c (.d (.int .i64 t7)))), (8, .one (.c (.d (.int .i64 (IntKind.wrap .i64 (t8 + 1))))))], [(0, some ⟨9, 0⟩)], [], 1⟩ [] (by kernel_rfl) trivial ?_
        exact ih out t6 t7 (IntKind.wrap .i64 (t8 + 1)) w h o hk
    · refine At.step hm ht ⟨[], [false], [], [3], [0]⟩ 8 ⟨[(3, .one (.c (.own 0 .str out)))], [(0, some ⟨9, 0⟩)], [], 1⟩ [(decide ((t8 : Int) < t7)) = false] (by kernel_rfl) ⟨b49_e0, trivial⟩ ?_
      have h := Option.some.inj h
      subst h
      exact hk
def f14_num_Line (n : Nat) (l : List ByteArray) : Option (ByteArray) :=
  (f14_num_Line_L3 n [] l ((l.length : Nat) : Int) 0).bind fun w55 =>
  (f19_strings_Join w55 (⟨#[32]⟩ : ByteArray)).bind fun r57_0 =>
  some r57_0
theorem f14_num_Line_ok (n : Nat) (l : List ByteArray) (r : ByteArray) (h : f14_num_Line n l = some r) : FnOK Go.Proofs.Try.prog 14 (f14_num_Line_in l) (f14_num_Line_out r) := by
  unfold f14_num_Line at h
  refine At.fn (r := 0) Go.Proofs.Try.func14 rfl (by kernel_rfl) rfl rfl (by kernel_rfl) ?_
  show At Go.Proofs.Try.prog Go.Proofs.Try.f14 0 0 ⟨[(0, .one (.c (.d (.sl .str l))))], [], [], 0⟩ _
  refine At.step hm ht ⟨[], [], [], [0], []⟩ 1 ⟨[(0, .one (.c (.d (.sl .str l))))], [], [], 0⟩ [] (by kernel_rfl) trivial ?_
  refine At.step hm ht ⟨[], [], [], [0, 3], []⟩ 2 ⟨[(0, .one (.c (.d (.sl .str l)))), (3, .one (.c (.d (.sl .unit []))))], [], [], 0⟩ [] (by kernel_rfl) trivial ?_
  refine At.step hm ht ⟨[], [], [.nil false 3 0 .str (some 9)], [3, 6, 7, 8], [3]⟩ 3 ⟨[(3, .one (.c (.own 0 .str []))), (6, .one (.c (.d (.sl .str l)))), (7, .one (.c (.d (.int .i64 ((l.length : Nat) : Int))))), (8, .one (.c (.d (.int .i64 0))))], [(0, some ⟨9, 0⟩)], [], 1⟩ [] (by kernel_rfl) trivial ?_
  obtain ⟨w55, cw55, h⟩ := bindS h
  refine f14_num_Line_L3_ok n [] l ((l.length : Nat) : Int) 0 w55 cw55 _ ?_
  show At Go.Proofs.Try.prog Go.Proofs.Try.f14 0 8 ⟨[(3, .one (.c (.own 0 .str w55)))], [(0, some ⟨9, 0⟩)], [], 1⟩ _
  obtain ⟨r57_0, cr57_0, h⟩ := bindS h
  have h := Option.some.inj h
  subst h
  exact At.fin hm ht ⟨[(1, .call [] [] (f19_strings_Join_out r57_0))], [], [], [2], []⟩ [FnOK Go.Proofs.Try.prog 19 (f19_strings_Join_in w55 (⟨#[32]⟩ : ByteArray)) (f19_strings_Join_out r57_0)] (by kernel_rfl) ⟨(f19_strings_Join_ok w55 (⟨#[32]⟩ : ByteArray) r57_0 cr57_0), trivial⟩
/-! brougham/broughamlaw01.alive -/
def f9_broughamlaw01_alive_in : Inn := ⟨[], [], [], 0⟩
def f9_broughamlaw01_alive_out (r : Bool) : Out := ⟨.one (.c (.d (.bool r))), [], [], 0⟩
def f9_broughamlaw01_alive (n : Nat) : Option (Bool) :=
  (f5_num_Parse (⟨#[48, 55]⟩ : ByteArray)).bind fun r36_0 =>
  (f7_num_Text 7).bind fun r37_0 =>
  if (r37_0.toList == (⟨#[55]⟩ : ByteArray).toList) = true then
    if ((r36_0.2 : Int) == 10) = true then
      (f12_num_Hex [11, 65]).bind fun r37_1 =>
      if (r37_1.toList == (⟨#[48, 98, 52, 49]⟩ : ByteArray).toList) = true then
        (f14_num_Line n [(⟨#[97]⟩ : ByteArray), (⟨#[]⟩ : ByteArray), (⟨#[98]⟩ : ByteArray)]).bind fun r37_2 =>
        some (r37_2.toList == (⟨#[97, 32, 98]⟩ : ByteArray).toList)
      else
        some false
    else
      some false
  else
    some false
theorem f9_broughamlaw01_alive_ok (n : Nat) (r : Bool) (h : f9_broughamlaw01_alive n = some r) : FnOK Go.Proofs.Try.prog 9 (f9_broughamlaw01_alive_in) (f9_broughamlaw01_alive_out r) := by
  unfold f9_broughamlaw01_alive at h
  refine At.fn (r := 0) Go.Proofs.Try.func9 rfl (by kernel_rfl) rfl rfl (by kernel_rfl) ?_
  show At Go.Proofs.Try.prog Go.Proofs.Try.f9 0 0 ⟨[], [], [], 0⟩ _
  refine At.step hm ht ⟨[], [], [], [], []⟩ 1 ⟨[], [], [], 0⟩ [] (by kernel_rfl) trivial ?_
  obtain ⟨r36_0, cr36_0, h⟩ := bindS h
  refine At.step hm ht ⟨[(0, .call [] [] (f5_num_Parse_out r36_0))], [], [], [2], []⟩ 2 ⟨[(2, .one (.c (.d (.int .i64 r36_0.2))))], [], [], 0⟩ [FnOK Go.Proofs.Try.prog 5 (f5_num_Parse_in (⟨#[48, 55]⟩ : ByteArray)) (f5_num_Parse_out r36_0)] (by kernel_rfl) ⟨(f5_num_Parse_ok (⟨#[48, 55]⟩ : ByteArray) r36_0 cr36_0), trivial⟩ ?_
  obtain ⟨r37_0, cr37_0, h⟩ := bindS h
  rcases iteS h with ⟨b37_2, h⟩ | ⟨b37_2, h⟩
  · rcases iteS h with ⟨b37_6, h⟩ | ⟨b37_6, h⟩
    · obtain ⟨r37_1, cr37_1, h⟩ := bindS h
      rcases iteS h with ⟨b37_11, h⟩ | ⟨b37_11, h⟩
      · obtain ⟨r37_2, cr37_2, h⟩ := bindS h
        have h := Option.some.inj h
        subst h
        exact At.fin hm ht ⟨[(0, .call [] [] (f7_num_Text_out r37_0)), (2, .b true), (6, .b true), (8, .call [] [] (f12_num_Hex_out r37_1)), (11, .b true), (13, .call [] [] (f14_num_Line_out r37_2))], [], [], [0], []⟩ [FnOK Go.Proofs.Try.prog 7 (f7_num_Text_in 7) (f7_num_Text_out r37_0), (r37_0.toList == (⟨#[55]⟩ : ByteArray).toList) = true, ((r36_0.2 : Int) == 10) = true, FnOK Go.Proofs.Try.prog 12 (f12_num_Hex_in [11, 65]) (f12_num_Hex_out r37_1), (r37_1.toList == (⟨#[48, 98, 52, 49]⟩ : ByteArray).toList) = true, FnOK Go.Proofs.Try.prog 14 (f14_num_Line_in [(⟨#[97]⟩ : ByteArray), (⟨#[]⟩ : ByteArray), (⟨#[98]⟩ : ByteArray)]) (f14_num_Line_out r37_2)] (by kernel_rfl) ⟨(f7_num_Text_ok 7 r37_0 cr37_0), b37_2, b37_6, (f12_num_Hex_ok [11, 65] r37_1 cr37_1), b37_11, (f14_num_Line_ok n [(⟨#[97]⟩ : ByteArray), (⟨#[]⟩ : ByteArray), (⟨#[98]⟩ : ByteArray)] r37_2 cr37_2), trivial⟩
      · have h := Option.some.inj h
        subst h
        exact At.fin hm ht ⟨[(0, .call [] [] (f7_num_Text_out r37_0)), (2, .b true), (6, .b true), (8, .call [] [] (f12_num_Hex_out r37_1)), (11, .b false)], [], [], [0], []⟩ [FnOK Go.Proofs.Try.prog 7 (f7_num_Text_in 7) (f7_num_Text_out r37_0), (r37_0.toList == (⟨#[55]⟩ : ByteArray).toList) = true, ((r36_0.2 : Int) == 10) = true, FnOK Go.Proofs.Try.prog 12 (f12_num_Hex_in [11, 65]) (f12_num_Hex_out r37_1), (r37_1.toList == (⟨#[48, 98, 52, 49]⟩ : ByteArray).toList) = false] (by kernel_rfl) ⟨(f7_num_Text_ok 7 r37_0 cr37_0), b37_2, b37_6, (f12_num_Hex_ok [11, 65] r37_1 cr37_1), b37_11, trivial⟩
    · have h := Option.some.inj h
      subst h
      exact At.fin hm ht ⟨[(0, .call [] [] (f7_num_Text_out r37_0)), (2, .b true), (6, .b false)], [], [], [0], []⟩ [FnOK Go.Proofs.Try.prog 7 (f7_num_Text_in 7) (f7_num_Text_out r37_0), (r37_0.toList == (⟨#[55]⟩ : ByteArray).toList) = true, ((r36_0.2 : Int) == 10) = false] (by kernel_rfl) ⟨(f7_num_Text_ok 7 r37_0 cr37_0), b37_2, b37_6, trivial⟩
  · have h := Option.some.inj h
    subst h
    exact At.fin hm ht ⟨[(0, .call [] [] (f7_num_Text_out r37_0)), (2, .b false)], [], [], [0], []⟩ [FnOK Go.Proofs.Try.prog 7 (f7_num_Text_in 7) (f7_num_Text_out r37_0), (r37_0.toList == (⟨#[55]⟩ : ByteArray).toList) = false] (by kernel_rfl) ⟨(f7_num_Text_ok 7 r37_0 cr37_0), b37_2, trivial⟩
/-! brougham/broughamlaw01.NumTexts -/
def f3_broughamlaw01_NumTexts_in (n_ : Int) (s : ByteArray) : Inn := ⟨[.c (.d (.int .i64 n_)), .c (.d (.str s))], [], [], 0⟩
def f3_broughamlaw01_NumTexts_out (r : Bool) : Out := ⟨.one (.c (.d (.bool r))), [], [], 0⟩
def f3_broughamlaw01_NumTexts (n : Nat) (n_ : Int) (s : ByteArray) : Option (Bool) :=
  if (decide ((((s.size : Nat) : Int) : Int) > 4096)) = true then
    some true
  else
    (f5_num_Parse s).bind fun r4_0 =>
    (f6_broughamref01_Parse n s).bind fun r5_0 =>
    (f7_num_Text n_).bind fun r26_0 =>
    (f5_num_Parse r26_0).bind fun r26_1 =>
    (f7_num_Text n_).bind fun r27_0 =>
    (f8_broughamref01_Text n n_).bind fun r27_1 =>
    if (r27_0.toList == r27_1.toList) = true then
      if ((r4_0.1 : Int) == r5_0.1) = true then
        if ((r4_0.2 : Int) == r5_0.2) = true then
          if (decide ((n_ : Int) < 0)) = true then
            if ((r4_0.2 : Int) != 0) = true then
              (f9_broughamlaw01_alive n).bind fun r27_2 =>
              some r27_2
            else
              (f7_num_Text r4_0.1).bind fun r27_2 =>
              if (r27_2.toList == s.toList) = true then
                (f9_broughamlaw01_alive n).bind fun r27_3 =>
                some r27_3
              else
                some false
          else
            if (decide ((n_ : Int) ≥ 2147483648)) = true then
              if ((r4_0.2 : Int) != 0) = true then
                (f9_broughamlaw01_alive n).bind fun r27_2 =>
                some r27_2
              else
                (f7_num_Text r4_0.1).bind fun r27_2 =>
                if (r27_2.toList == s.toList) = true then
                  (f9_broughamlaw01_alive n).bind fun r27_3 =>
                  some r27_3
                else
                  some false
            else
              if ((r26_1.2 : Int) == 0) = true then
                if ((r26_1.1 : Int) == n_) = true then
                  if ((r4_0.2 : Int) != 0) = true then
                    (f9_broughamlaw01_alive n).bind fun r27_2 =>
                    some r27_2
                  else
                    (f7_num_Text r4_0.1).bind fun r27_2 =>
                    if (r27_2.toList == s.toList) = true then
                      (f9_broughamlaw01_alive n).bind fun r27_3 =>
                      some r27_3
                    else
                      some false
                else
                  some false
              else
                some false
        else
          some false
      else
        some false
    else
      some false
theorem f3_broughamlaw01_NumTexts_ok (n : Nat) (n_ : Int) (s : ByteArray) (r : Bool) (h : f3_broughamlaw01_NumTexts n n_ s = some r) : FnOK Go.Proofs.Try.prog 3 (f3_broughamlaw01_NumTexts_in n_ s) (f3_broughamlaw01_NumTexts_out r) := by
  unfold f3_broughamlaw01_NumTexts at h
  refine At.fn (r := 0) Go.Proofs.Try.func3 rfl (by kernel_rfl) rfl rfl (by kernel_rfl) ?_
  show At Go.Proofs.Try.prog Go.Proofs.Try.f3 0 0 ⟨[(0, .one (.c (.d (.int .i64 n_)))), (1, .one (.c (.d (.str s))))], [], [], 0⟩ _
  refine At.step hm ht ⟨[], [], [], [0, 1], []⟩ 1 ⟨[(0, .one (.c (.d (.int .i64 n_)))), (1, .one (.c (.d (.str s))))], [], [], 0⟩ [] (by kernel_rfl) trivial ?_
  rcases iteS h with ⟨b2_e0, h⟩ | ⟨b2_e0, h⟩
  · refine At.step hm ht ⟨[], [true], [], [], []⟩ 2 ⟨[], [], [], 0⟩ [(decide ((((s.size : Nat) : Int) : Int) > 4096)) = true] (by kernel_rfl) ⟨b2_e0, trivial⟩ ?_
    have h := Option.some.inj h
    subst h
    exact At.fin hm ht ⟨[], [], [], [4], []⟩ [] (by kernel_rfl) trivial
  · refine At.step hm ht ⟨[], [false], [], [0, 1], []⟩ 3 ⟨[(0, .one (.c (.d (.int .i64 n_)))), (1, .one (.c (.d (.str s))))], [], [], 0⟩ [(decide ((((s.size : Nat) : Int) : Int) > 4096)) = false] (by kernel_rfl) ⟨b2_e0, trivial⟩ ?_
    obtain ⟨r4_0, cr4_0, h⟩ := bindS h
    refine At.step hm ht ⟨[(1, .call [] [] (f5_num_Parse_out r4_0))], [], [], [0, 1, 5, 6], []⟩ 4 ⟨[(0, .one (.c (.d (.int .i64 n_)))), (1, .one (.c (.d (.str s)))), (5, .one (.c (.d (.int .i64 r4_0.1)))), (6, .one (.c (.d (.int .i64 r4_0.2))))], [], [], 0⟩ [FnOK Go.Proofs.Try.prog 5 (f5_num_Parse_in s) (f5_num_Parse_out r4_0)] (by kernel_rfl) ⟨(f5_num_Parse_ok s r4_0 cr4_0), trivial⟩ ?_
    obtain ⟨r5_0, cr5_0, h⟩ := bindS h
    refine At.step hm ht ⟨[(1, .call [] [] (f6_broughamref01_Parse_out r5_0))], [], [], [0, 1, 5, 6, 7, 8], []⟩ 5 ⟨[(0, .one (.c (.d (.int .i64 n_)))), (1, .one (.c (.d (.str s)))), (5, .one (.c (.d (.int .i64 r4_0.1)))), (6, .one (.c (.d (.int .i64 r4_0.2)))), (7, .one (.c (.d (.int .i64 r5_0.1)))), (8, .one (.c (.d (.int .i64 r5_0.2))))], [], [], 0⟩ [FnOK Go.Proofs.Try.prog 6 (f6_broughamref01_Parse_in s) (f6_broughamref01_Parse_out r5_0)] (by kernel_rfl) ⟨(f6_broughamref01_Parse_ok n s r5_0 cr5_0), trivial⟩ ?_
    obtain ⟨r26_0, cr26_0, h⟩ := bindS h
    obtain ⟨r26_1, cr26_1, h⟩ := bindS h
    refine At.step hm ht ⟨[(1, .call [] [] (f7_num_Text_out r26_0)), (2, .call [] [] (f5_num_Parse_out r26_1))], [], [], [0, 1, 5, 6, 7, 8, 9, 10], []⟩ 6 ⟨[(0, .one (.c (.d (.int .i64 n_)))), (1, .one (.c (.d (.str s)))), (5, .one (.c (.d (.int .i64 r4_0.1)))), (6, .one (.c (.d (.int .i64 r4_0.2)))), (7, .one (.c (.d (.int .i64 r5_0.1)))), (8, .one (.c (.d (.int .i64 r5_0.2)))), (9, .one (.c (.d (.int .i64 r26_1.1)))), (10, .one (.c (.d (.int .i64 r26_1.2))))], [], [], 0⟩ [FnOK Go.Proofs.Try.prog 7 (f7_num_Text_in n_) (f7_num_Text_out r26_0), FnOK Go.Proofs.Try.prog 5 (f5_num_Parse_in r26_0) (f5_num_Parse_out r26_1)] (by kernel_rfl) ⟨(f7_num_Text_ok n_ r26_0 cr26_0), (f5_num_Parse_ok r26_0 r26_1 cr26_1), trivial⟩ ?_
    obtain ⟨r27_0, cr27_0, h⟩ := bindS h
    obtain ⟨r27_1, cr27_1, h⟩ := bindS h
    rcases iteS h with ⟨b27_5, h⟩ | ⟨b27_5, h⟩
    · rcases iteS h with ⟨b27_10, h⟩ | ⟨b27_10, h⟩
      · rcases iteS h with ⟨b27_15, h⟩ | ⟨b27_15, h⟩
        · rcases iteS h with ⟨b27_18, h⟩ | ⟨b27_18, h⟩
          · rcases iteS h with ⟨b27_35, h⟩ | ⟨b27_35, h⟩
            · obtain ⟨r27_2, cr27_2, h⟩ := bindS h
              have h := Option.some.inj h
              subst h
              exact At.fin hm ht ⟨[(1, .call [] [] (f7_num_Text_out r27_0)), (3, .call [] [] (f8_broughamref01_Text_out r27_1)), (5, .b true), (10, .b true), (15, .b true), (18, .b true), (35, .b true), (43, .call [] [] (f9_broughamlaw01_alive_out r27_2))], [], [], [4], []⟩ [FnOK Go.Proofs.Try.prog 7 (f7_num_Text_in n_) (f7_num_Text_out r27_0), FnOK Go.Proofs.Try.prog 8 (f8_broughamref01_Text_in n_) (f8_broughamref01_Text_out r27_1), (r27_0.toList == r27_1.toList) = true, ((r4_0.1 : Int) == r5_0.1) = true, ((r4_0.2 : Int) == r5_0.2) = true, (decide ((n_ : Int) < 0)) = true, ((r4_0.2 : Int) != 0) = true, FnOK Go.Proofs.Try.prog 9 (f9_broughamlaw01_alive_in) (f9_broughamlaw01_alive_out r27_2)] (by kernel_rfl) ⟨(f7_num_Text_ok n_ r27_0 cr27_0), (f8_broughamref01_Text_ok n n_ r27_1 cr27_1), b27_5, b27_10, b27_15, b27_18, b27_35, (f9_broughamlaw01_alive_ok n r27_2 cr27_2), trivial⟩
            · obtain ⟨r27_2, cr27_2, h⟩ := bindS h
              rcases iteS h with ⟨b27_42, h⟩ | ⟨b27_42, h⟩
              · obtain ⟨r27_3, cr27_3, h⟩ := bindS h
                have h := Option.some.inj h
                subst h
                exact At.fin hm ht ⟨[(1, .call [] [] (f7_num_Text_out r27_0)), (3, .call [] [] (f8_broughamref01_Text_out r27_1)), (5, .b true), (10, .b true), (15, .b true), (18, .b true), (35, .b false), (37, .call [] [] (f7_num_Text_out r27_2)), (42, .b true), (43, .call [] [] (f9_broughamlaw01_alive_out r27_3))], [], [], [4], []⟩ [FnOK Go.Proofs.Try.prog 7 (f7_num_Text_in n_) (f7_num_Text_out r27_0), FnOK Go.Proofs.Try.prog 8 (f8_broughamref01_Text_in n_) (f8_broughamref01_Text_out r27_1), (r27_0.toList == r27_1.toList) = true, ((r4_0.1 : Int) == r5_0.1) = true, ((r4_0.2 : Int) == r5_0.2) = true, (decide ((n_ : Int) < 0)) = true, ((r4_0.2 : Int) != 0) = false, FnOK Go.Proofs.Try.prog 7 (f7_num_Text_in r4_0.1) (f7_num_Text_out r27_2), (r27_2.toList == s.toList) = true, FnOK Go.Proofs.Try.prog 9 (f9_broughamlaw01_alive_in) (f9_broughamlaw01_alive_out r27_3)] (by kernel_rfl) ⟨(f7_num_Text_ok n_ r27_0 cr27_0), (f8_broughamref01_Text_ok n n_ r27_1 cr27_1), b27_5, b27_10, b27_15, b27_18, b27_35, (f7_num_Text_ok r4_0.1 r27_2 cr27_2), b27_42, (f9_broughamlaw01_alive_ok n r27_3 cr27_3), trivial⟩
              · have h := Option.some.inj h
                subst h
                exact At.fin hm ht ⟨[(1, .call [] [] (f7_num_Text_out r27_0)), (3, .call [] [] (f8_broughamref01_Text_out r27_1)), (5, .b true), (10, .b true), (15, .b true), (18, .b true), (35, .b false), (37, .call [] [] (f7_num_Text_out r27_2)), (42, .b false)], [], [], [4], []⟩ [FnOK Go.Proofs.Try.prog 7 (f7_num_Text_in n_) (f7_num_Text_out r27_0), FnOK Go.Proofs.Try.prog 8 (f8_broughamref01_Text_in n_) (f8_broughamref01_Text_out r27_1), (r27_0.toList == r27_1.toList) = true, ((r4_0.1 : Int) == r5_0.1) = true, ((r4_0.2 : Int) == r5_0.2) = true, (decide ((n_ : Int) < 0)) = true, ((r4_0.2 : Int) != 0) = false, FnOK Go.Proofs.Try.prog 7 (f7_num_Text_in r4_0.1) (f7_num_Text_out r27_2), (r27_2.toList == s.toList) = false] (by kernel_rfl) ⟨(f7_num_Text_ok n_ r27_0 cr27_0), (f8_broughamref01_Text_ok n n_ r27_1 cr27_1), b27_5, b27_10, b27_15, b27_18, b27_35, (f7_num_Text_ok r4_0.1 r27_2 cr27_2), b27_42, trivial⟩
          · rcases iteS h with ⟨b27_22, h⟩ | ⟨b27_22, h⟩
            · rcases iteS h with ⟨b27_35, h⟩ | ⟨b27_35, h⟩
              · obtain ⟨r27_2, cr27_2, h⟩ := bindS h
                have h := Option.some.inj h
                subst h
                exact At.fin hm ht ⟨[(1, .call [] [] (f7_num_Text_out r27_0)), (3, .call [] [] (f8_broughamref01_Text_out r27_1)), (5, .b true), (10, .b true), (15, .b true), (18, .b false), (22, .b true), (35, .b true), (43, .call [] [] (f9_broughamlaw01_alive_out r27_2))], [], [], [4], []⟩ [FnOK Go.Proofs.Try.prog 7 (f7_num_Text_in n_) (f7_num_Text_out r27_0), FnOK Go.Proofs.Try.prog 8 (f8_broughamref01_Text_in n_) (f8_broughamref01_Text_out r27_1), (r27_0.toList == r27_1.toList) = true, ((r4_0.1 : Int) == r5_0.1) = true, ((r4_0.2 : Int) == r5_0.2) = true, (decide ((n_ : Int) < 0)) = false, (decide ((n_ : Int) ≥ 2147483648)) = true, ((r4_0.2 : Int) != 0) = true, FnOK Go.Proofs.Try.prog 9 (f9_broughamlaw01_alive_in) (f9_broughamlaw01_alive_out r27_2)] (by kernel_rfl) ⟨(f7_num_Text_ok n_ r27_0 cr27_0), (f8_broughamref01_Text_ok n n_ r27_1 cr27_1), b27_5, b27_10, b27_15, b27_18, b27_22, b27_35, (f9_broughamlaw01_alive_ok n r27_2 cr27_2), trivial⟩
              · obtain ⟨r27_2, cr27_2, h⟩ := bindS h
                rcases iteS h with ⟨b27_42, h⟩ | ⟨b27_42, h⟩
                · obtain ⟨r27_3, cr27_3, h⟩ := bindS h
                  have h := Option.some.inj h
                  subst h
                  exact At.fin hm ht ⟨[(1, .call [] [] (f7_num_Text_out r27_0)), (3, .call [] [] (f8_broughamref01_Text_out r27_1)), (5, .b true), (10, .b true), (15, .b true), (18, .b false), (22, .b true), (35, .b false), (37, .call [] [] (f7_num_Text_out r27_2)), (42, .b true), (43, .call [] [] (f9_broughamlaw01_alive_out r27_3))], [], [], [4], []⟩ [FnOK Go.Proofs.Try.prog 7 (f7_num_Text_in n_) (f7_num_Text_out r27_0), FnOK Go.Proofs.Try.prog 8 (f8_broughamref01_Text_in n_) (f8_broughamref01_Text_out r27_1), (r27_0.toList == r27_1.toList) = true, ((r4_0.1 : Int) == r5_0.1) = true, ((r4_0.2 : Int) == r5_0.2) = true, (decide ((n_ : Int) < 0)) = false, (decide ((n_ : Int) ≥ 2147483648)) = true, ((r4_0.2 : Int) != 0) = false, FnOK Go.Proofs.Try.prog 7 (f7_num_Text_in r4_0.1) (f7_num_Text_out r27_2), (r27_2.toList == s.toList) = true, FnOK Go.Proofs.Try.prog 9 (f9_broughamlaw01_alive_in) (f9_broughamlaw01_alive_out r27_3)] (by kernel_rfl) ⟨(f7_num_Text_ok n_ r27_0 cr27_0), (f8_broughamref01_Text_ok n n_ r27_1 cr27_1), b27_5, b27_10, b27_15, b27_18, b27_22, b27_35, (f7_num_Text_ok r4_0.1 r27_2 cr27_2), b27_42, (f9_broughamlaw01_alive_ok n r27_3 cr27_3), trivial⟩
                · have h := Option.some.inj h
                  subst h
                  exact At.fin hm ht ⟨[(1, .call [] [] (f7_num_Text_out r27_0)), (3, .call [] [] (f8_broughamref01_Text_out r27_1)), (5, .b true), (10, .b true), (15, .b true), (18, .b false), (22, .b true), (35, .b false), (37, .call [] [] (f7_num_Text_out r27_2)), (42, .b false)], [], [], [4], []⟩ [FnOK Go.Proofs.Try.prog 7 (f7_num_Text_in n_) (f7_num_Text_out r27_0), FnOK Go.Proofs.Try.prog 8 (f8_broughamref01_Text_in n_) (f8_broughamref01_Text_out r27_1), (r27_0.toList == r27_1.toList) = true, ((r4_0.1 : Int) == r5_0.1) = true, ((r4_0.2 : Int) == r5_0.2) = true, (decide ((n_ : Int) < 0)) = false, (decide ((n_ : Int) ≥ 2147483648)) = true, ((r4_0.2 : Int) != 0) = false, FnOK Go.Proofs.Try.prog 7 (f7_num_Text_in r4_0.1) (f7_num_Text_out r27_2), (r27_2.toList == s.toList) = false] (by kernel_rfl) ⟨(f7_num_Text_ok n_ r27_0 cr27_0), (f8_broughamref01_Text_ok n n_ r27_1 cr27_1), b27_5, b27_10, b27_15, b27_18, b27_22, b27_35, (f7_num_Text_ok r4_0.1 r27_2 cr27_2), b27_42, trivial⟩
            · rcases iteS h with ⟨b27_25, h⟩ | ⟨b27_25, h⟩
              · rcases iteS h with ⟨b27_32, h⟩ | ⟨b27_32, h⟩
                · rcases iteS h with ⟨b27_35, h⟩ | ⟨b27_35, h⟩
                  · obtain ⟨r27_2, cr27_2, h⟩ := bindS h
                    have h := Option.some.inj h
                    subst h
                    exact At.fin hm ht ⟨[(1, .call [] [] (f7_num_Text_out r27_0)), (3, .call [] [] (f8_broughamref01_Text_out r27_1)), (5, .b true), (10, .b true), (15, .b true), (18, .b false), (22, .b false), (25, .b true), (32, .b true), (35, .b true), (43, .call [] [] (f9_broughamlaw01_alive_out r27_2))], [], [], [4], []⟩ [FnOK Go.Proofs.Try.prog 7 (f7_num_Text_in n_) (f7_num_Text_out r27_0), FnOK Go.Proofs.Try.prog 8 (f8_broughamref01_Text_in n_) (f8_broughamref01_Text_out r27_1), (r27_0.toList == r27_1.toList) = true, ((r4_0.1 : Int) == r5_0.1) = true, ((r4_0.2 : Int) == r5_0.2) = true, (decide ((n_ : Int) < 0)) = false, (decide ((n_ : Int) ≥ 2147483648)) = false, ((r26_1.2 : Int) == 0) = true, ((r26_1.1 : Int) == n_) = true, ((r4_0.2 : Int) != 0) = true, FnOK Go.Proofs.Try.prog 9 (f9_broughamlaw01_alive_in) (f9_broughamlaw01_alive_out r27_2)] (by kernel_rfl) ⟨(f7_num_Text_ok n_ r27_0 cr27_0), (f8_broughamref01_Text_ok n n_ r27_1 cr27_1), b27_5, b27_10, b27_15, b27_18, b27_22, b27_25, b27_32, b27_35, (f9_broughamlaw01_alive_ok n r27_2 cr27_2), trivial⟩
                  · obtain ⟨r27_2, cr27_2, h⟩ := bindS h
                    rcases iteS h with ⟨b27_42, h⟩ | ⟨b27_42, h⟩
                    · obtain ⟨r27_3, cr27_3, h⟩ := bindS h
                      have h := Option.some.inj h
                      subst h
                      exact At.fin hm ht ⟨[(1, .call [] [] (f7_num_Text_out r27_0)), (3, .call [] [] (f8_broughamref01_Text_out r27_1)), (5, .b true), (10, .b true), (15, .b true), (18, .b false), (22, .b false), (25, .b true), (32, .b true), (35, .b false), (37, .call [] [] (f7_num_Text_out r27_2)), (42, .b true), (43, .call [] [] (f9_broughamlaw01_alive_out r27_3))], [], [], [4], []⟩ [FnOK Go.Proofs.Try.prog 7 (f7_num_Text_in n_) (f7_num_Text_out r27_0), FnOK Go.Proofs.Try.prog 8 (f8_broughamref01_Text_in n_) (f8_broughamref01_Text_out r27_1), (r27_0.toList == r27_1.toList) = true, ((r4_0.1 : Int) == r5_0.1) = true, ((r4_0.2 : Int) == r5_0.2) = true, (decide ((n_ : Int) < 0)) = false, (decide ((n_ : Int) ≥ 2147483648)) = false, ((r26_1.2 : Int) == 0) = true, ((r26_1.1 : Int) == n_) = true, ((r4_0.2 : Int) != 0) = false, FnOK Go.Proofs.Try.prog 7 (f7_num_Text_in r4_0.1) (f7_num_Text_out r27_2), (r27_2.toList == s.toList) = true, FnOK Go.Proofs.Try.prog 9 (f9_broughamlaw01_alive_in) (f9_broughamlaw01_alive_out r27_3)] (by kernel_rfl) ⟨(f7_num_Text_ok n_ r27_0 cr27_0), (f8_broughamref01_Text_ok n n_ r27_1 cr27_1), b27_5, b27_10, b27_15, b27_18, b27_22, b27_25, b27_32, b27_35, (f7_num_Text_ok r4_0.1 r27_2 cr27_2), b27_42, (f9_broughamlaw01_alive_ok n r27_3 cr27_3), trivial⟩
                    · have h := Option.some.inj h
                      subst h
                      exact At.fin hm ht ⟨[(1, .call [] [] (f7_num_Text_out r27_0)), (3, .call [] [] (f8_broughamref01_Text_out r27_1)), (5, .b true), (10, .b true), (15, .b true), (18, .b false), (22, .b false), (25, .b true), (32, .b true), (35, .b false), (37, .call [] [] (f7_num_Text_out r27_2)), (42, .b false)], [], [], [4], []⟩ [FnOK Go.Proofs.Try.prog 7 (f7_num_Text_in n_) (f7_num_Text_out r27_0), FnOK Go.Proofs.Try.prog 8 (f8_broughamref01_Text_in n_) (f8_broughamref01_Text_out r27_1), (r27_0.toList == r27_1.toList) = true, ((r4_0.1 : Int) == r5_0.1) = true, ((r4_0.2 : Int) == r5_0.2) = true, (decide ((n_ : Int) < 0)) = false, (decide ((n_ : Int) ≥ 2147483648)) = false, ((r26_1.2 : Int) == 0) = true, ((r26_1.1 : Int) == n_) = true, ((r4_0.2 : Int) != 0) = false, FnOK Go.Proofs.Try.prog 7 (f7_num_Text_in r4_0.1) (f7_num_Text_out r27_2), (r27_2.toList == s.toList) = false] (by kernel_rfl) ⟨(f7_num_Text_ok n_ r27_0 cr27_0), (f8_broughamref01_Text_ok n n_ r27_1 cr27_1), b27_5, b27_10, b27_15, b27_18, b27_22, b27_25, b27_32, b27_35, (f7_num_Text_ok r4_0.1 r27_2 cr27_2), b27_42, trivial⟩
                · have h := Option.some.inj h
                  subst h
                  exact At.fin hm ht ⟨[(1, .call [] [] (f7_num_Text_out r27_0)), (3, .call [] [] (f8_broughamref01_Text_out r27_1)), (5, .b true), (10, .b true), (15, .b true), (18, .b false), (22, .b false), (25, .b true), (32, .b false)], [], [], [4], []⟩ [FnOK Go.Proofs.Try.prog 7 (f7_num_Text_in n_) (f7_num_Text_out r27_0), FnOK Go.Proofs.Try.prog 8 (f8_broughamref01_Text_in n_) (f8_broughamref01_Text_out r27_1), (r27_0.toList == r27_1.toList) = true, ((r4_0.1 : Int) == r5_0.1) = true, ((r4_0.2 : Int) == r5_0.2) = true, (decide ((n_ : Int) < 0)) = false, (decide ((n_ : Int) ≥ 2147483648)) = false, ((r26_1.2 : Int) == 0) = true, ((r26_1.1 : Int) == n_) = false] (by kernel_rfl) ⟨(f7_num_Text_ok n_ r27_0 cr27_0), (f8_broughamref01_Text_ok n n_ r27_1 cr27_1), b27_5, b27_10, b27_15, b27_18, b27_22, b27_25, b27_32, trivial⟩
              · have h := Option.some.inj h
                subst h
                exact At.fin hm ht ⟨[(1, .call [] [] (f7_num_Text_out r27_0)), (3, .call [] [] (f8_broughamref01_Text_out r27_1)), (5, .b true), (10, .b true), (15, .b true), (18, .b false), (22, .b false), (25, .b false)], [], [], [4], []⟩ [FnOK Go.Proofs.Try.prog 7 (f7_num_Text_in n_) (f7_num_Text_out r27_0), FnOK Go.Proofs.Try.prog 8 (f8_broughamref01_Text_in n_) (f8_broughamref01_Text_out r27_1), (r27_0.toList == r27_1.toList) = true, ((r4_0.1 : Int) == r5_0.1) = true, ((r4_0.2 : Int) == r5_0.2) = true, (decide ((n_ : Int) < 0)) = false, (decide ((n_ : Int) ≥ 2147483648)) = false, ((r26_1.2 : Int) == 0) = false] (by kernel_rfl) ⟨(f7_num_Text_ok n_ r27_0 cr27_0), (f8_broughamref01_Text_ok n n_ r27_1 cr27_1), b27_5, b27_10, b27_15, b27_18, b27_22, b27_25, trivial⟩
        · have h := Option.some.inj h
          subst h
          exact At.fin hm ht ⟨[(1, .call [] [] (f7_num_Text_out r27_0)), (3, .call [] [] (f8_broughamref01_Text_out r27_1)), (5, .b true), (10, .b true), (15, .b false)], [], [], [4], []⟩ [FnOK Go.Proofs.Try.prog 7 (f7_num_Text_in n_) (f7_num_Text_out r27_0), FnOK Go.Proofs.Try.prog 8 (f8_broughamref01_Text_in n_) (f8_broughamref01_Text_out r27_1), (r27_0.toList == r27_1.toList) = true, ((r4_0.1 : Int) == r5_0.1) = true, ((r4_0.2 : Int) == r5_0.2) = false] (by kernel_rfl) ⟨(f7_num_Text_ok n_ r27_0 cr27_0), (f8_broughamref01_Text_ok n n_ r27_1 cr27_1), b27_5, b27_10, b27_15, trivial⟩
      · have h := Option.some.inj h
        subst h
        exact At.fin hm ht ⟨[(1, .call [] [] (f7_num_Text_out r27_0)), (3, .call [] [] (f8_broughamref01_Text_out r27_1)), (5, .b true), (10, .b false)], [], [], [4], []⟩ [FnOK Go.Proofs.Try.prog 7 (f7_num_Text_in n_) (f7_num_Text_out r27_0), FnOK Go.Proofs.Try.prog 8 (f8_broughamref01_Text_in n_) (f8_broughamref01_Text_out r27_1), (r27_0.toList == r27_1.toList) = true, ((r4_0.1 : Int) == r5_0.1) = false] (by kernel_rfl) ⟨(f7_num_Text_ok n_ r27_0 cr27_0), (f8_broughamref01_Text_ok n n_ r27_1 cr27_1), b27_5, b27_10, trivial⟩
    · have h := Option.some.inj h
      subst h
      exact At.fin hm ht ⟨[(1, .call [] [] (f7_num_Text_out r27_0)), (3, .call [] [] (f8_broughamref01_Text_out r27_1)), (5, .b false)], [], [], [4], []⟩ [FnOK Go.Proofs.Try.prog 7 (f7_num_Text_in n_) (f7_num_Text_out r27_0), FnOK Go.Proofs.Try.prog 8 (f8_broughamref01_Text_in n_) (f8_broughamref01_Text_out r27_1), (r27_0.toList == r27_1.toList) = false] (by kernel_rfl) ⟨(f7_num_Text_ok n_ r27_0 cr27_0), (f8_broughamref01_Text_ok n n_ r27_1 cr27_1), b27_5, trivial⟩
/-! brougham/num.Unhex -/
def f10_num_Unhex_in (s : ByteArray) : Inn := ⟨[.c (.d (.str s))], [], [], 0⟩
def f10_num_Unhex_out (r : List Int × Int) : Out := ⟨.tup [.c (.own 0 (.int .u8) r.1), .c (.d (.int .i64 r.2))], [(0, ⟨5, 0⟩)], [], 1⟩
def f10_num_Unhex_L5 : Nat → ByteArray → (List Int) → Int → Option ((List Int × Int) ⊕ (List Int))
  | 0, _, _, _ => none
  | n + 1, s, b, i =>
    if (decide ((i : Int) < ((s.size : Nat) : Int))) = true then
      if (((IntKind.wrap .i64 (i + 1)) : Int) == ((s.size : Nat) : Int)) = true then
        some (.inl ([], 11))
      else
        if (0 : Int) ≤ i ∧ i < (((s).size : Nat) : Int) then
        (f15_strings_IndexByte (⟨#[48, 49, 50, 51, 52, 53, 54, 55, 56, 57, 97, 98, 99, 100, 101, 102]⟩ : ByteArray) (byteAt s i)).bind fun r105_1 =>
        if (0 : Int) ≤ (IntKind.wrap .i64 (i + 1)) ∧ (IntKind.wrap .i64 (i + 1)) < (((s).size : Nat) : Int) then
        (f15_strings_IndexByte (⟨#[48, 49, 50, 51, 52, 53, 54, 55, 56, 57, 97, 98, 99, 100, 101, 102]⟩ : ByteArray) (byteAt s (IntKind.wrap .i64 (i + 1)))).bind fun r105_3 =>
        if (decide ((r105_1 : Int) < 0)) = true then
          some (.inl ([], 11))
        else
          if (decide ((r105_3 : Int) < 0)) = true then
            some (.inl ([], 11))
          else
            if b.length + [(IntKind.wrap .u8 (bits .or .i64 (IntKind.wrap .i64 (r105_1 * 2 ^ 4)) r105_3))].length ≤ maxLen ∧ (b.length + [(IntKind.wrap .u8 (bits .or .i64 (IntKind.wrap .i64 (r105_1 * 2 ^ 4)) r105_3))].length) * 1 ≤ 140737488355328 then
            f10_num_Unhex_L5 n s (b ++ [(IntKind.wrap .u8 (bits .or .i64 (IntKind.wrap .i64 (r105_1 * 2 ^ 4)) r105_3))]) (IntKind.wrap .i64 (i + 2))
            else none
        else none
        else none
    else
      some (.inr b)
def f10_num_Unhex_L5_k (w : (List Int × Int) ⊕ (List Int)) (o : Out) : Prop := match w with
  | .inl e => o = f10_num_Unhex_out e
  | .inr e => At Go.Proofs.Try.prog Go.Proofs.Try.f10 0 13 ⟨[(4, .one (.c (.own 0 (.int .u8) e)))], [(0, some ⟨5, 0⟩)], [], 1⟩ o
theorem f10_num_Unhex_L5_ok (n : Nat) : ∀ (s : ByteArray) (b : List Int) (i : Int) (w : (List Int × Int) ⊕ (List Int)) (h : f10_num_Unhex_L5 n s b i = some w) (o : Out) (hk : f10_num_Unhex_L5_k w o), At Go.Proofs.Try.prog Go.Proofs.Try.f10 0 5 ⟨[(0, .one (.c (.d (.str s)))), (4, .one (.c (.own 0 (.int .u8) b))), (5, .one (.c (.d (.int .i64 i))))], [(0, some ⟨5, 0⟩)], [], 1⟩ o := by
  induction n with
  | zero => intro s b i w h; rw [f10_num_Unhex_L5] at h; cases h
  | succ n ih =>
    intro s b i w h o hk
    rw [f10_num_Unhex_L5] at h
    rcases iteS h with ⟨b102_e0, h⟩ | ⟨b102_e0, h⟩
    · refine At.step hm ht ⟨[], [true], [], [0, 4, 5], [0]⟩ 7 ⟨[(0, .one (.c (.d (.str s)))), (4, .one (.c (.own 0 (.int .u8) b))), (5, .one (.c (.d (.int .i64 i))))], [(0, some ⟨5, 0⟩)], [], 1⟩ [(decide ((i : Int) < ((s.size : Nat) : Int))) = true] (by kernel_rfl) ⟨b102_e0, trivial⟩ ?_
      rcases iteS h with ⟨b103_e0, h⟩ | ⟨b103_e0, h⟩
      · refine At.step hm ht ⟨[], [true], [], [], []⟩ 8 ⟨[], [], [], 0⟩ [(((IntKind.wrap .i64 (i + 1)) : Int) == ((s.size : Nat) : Int)) = true] (by kernel_rfl) ⟨b103_e0, trivial⟩ ?_
        have h := Option.some.inj h
        subst h
        have hk : o = f10_num_Unhex_out ([], 11) := hk
        subst hk
        exact At.fin hm ht ⟨[], [], [.nil false 2 0 (.int .u8) (some 5)], [2, 3], [2]⟩ [] (by kernel_rfl) trivial
      · refine At.step hm ht ⟨[], [false], [], [0, 4, 5], [0]⟩ 9 ⟨[(0, .one (.c (.d (.str s)))), (4, .one (.c (.own 0 (.int .u8) b))), (5, .one (.c (.d (.int .i64 i))))], [(0, some ⟨5, 0⟩)], [], 1⟩ [(((IntKind.wrap .i64 (i + 1)) : Int) == ((s.size : Nat) : Int)) = false] (by kernel_rfl) ⟨b103_e0, trivial⟩ ?_
        obtain ⟨g105_0, h⟩ := ifS h
        obtain ⟨r105_1, cr105_1, h⟩ := bindS h
        obtain ⟨g105_2, h⟩ := ifS h
        obtain ⟨r105_3, cr105_3, h⟩ := bindS h
        refine At.step hm ht ⟨[(3, .call [] [] (f15_strings_IndexByte_out r105_1)), (8, .call [] [] (f15_strings_IndexByte_out r105_3))], [], [], [0, 4, 5, 6, 7], [0]⟩ 10 ⟨[(0, .one (.c (.d (.str s)))), (4, .one (.c (.own 0 (.int .u8) b))), (5, .one (.c (.d (.int .i64 i)))), (6, .one (.c (.d (.int .i64 r105_1)))), (7, .one (.c (.d (.int .i64 r105_3))))], [(0, some ⟨5, 0⟩)], [], 1⟩ [(0 : Int) ≤ i ∧ i < (((s).size : Nat) : Int), FnOK Go.Proofs.Try.prog 15 (f15_strings_IndexByte_in (⟨#[48, 49, 50, 51, 52, 53, 54, 55, 56, 57, 97, 98, 99, 100, 101, 102]⟩ : ByteArray) (byteAt s i)) (f15_strings_IndexByte_out r105_1), (0 : Int) ≤ (IntKind.wrap .i64 (i + 1)) ∧ (IntKind.wrap .i64 (i + 1)) < (((s).size : Nat) : Int), FnOK Go.Proofs.Try.prog 15 (f15_strings_IndexByte_in (⟨#[48, 49, 50, 51, 52, 53, 54, 55, 56, 57, 97, 98, 99, 100, 101, 102]⟩ : ByteArray) (byteAt s (IntKind.wrap .i64 (i + 1)))) (f15_strings_IndexByte_out r105_3)] (by kernel_rfl) ⟨g105_0, (f15_strings_IndexByte_ok (⟨#[48, 49, 50, 51, 52, 53, 54, 55, 56, 57, 97, 98, 99, 100, 101, 102]⟩ : ByteArray) (byteAt s i) r105_1 cr105_1), g105_2, (f15_strings_IndexByte_ok (⟨#[48, 49, 50, 51, 52, 53, 54, 55, 56, 57, 97, 98, 99, 100, 101, 102]⟩ : ByteArray) (byteAt s (IntKind.wrap .i64 (i + 1))) r105_3 cr105_3), trivial⟩ ?_
        rcases iteS h with ⟨b106_2, h⟩ | ⟨b106_2, h⟩
        · refine At.step hm ht ⟨[(2, .b true)], [true], [], [], []⟩ 11 ⟨[], [], [], 0⟩ [(decide ((r105_1 : Int) < 0)) = true, true = true] (by kernel_rfl) ⟨b106_2, rfl, trivial⟩ ?_
          have h := Option.some.inj h
          subst h
          have hk : o = f10_num_Unhex_out ([], 11) := hk
          subst hk
          exact At.fin hm ht ⟨[], [], [.nil false 2 0 (.int .u8) (some 5)], [2, 3], [2]⟩ [] (by kernel_rfl) trivial
        · rcases iteS h with ⟨b106_e0, h⟩ | ⟨b106_e0, h⟩
          · refine At.step hm ht ⟨[(2, .b false)], [true], [], [], []⟩ 11 ⟨[], [], [], 0⟩ [(decide ((r105_1 : Int) < 0)) = false, (decide ((r105_3 : Int) < 0)) = true] (by kernel_rfl) ⟨b106_2, b106_e0, trivial⟩ ?_
            have h := Option.some.inj h
            subst h
            have hk : o = f10_num_Unhex_out ([], 11) := hk
            subst hk
            exact At.fin hm ht ⟨[], [], [.nil false 2 0 (.int .u8) (some 5)], [2, 3], [2]⟩ [] (by kernel_rfl) trivial
          · refine At.step hm ht ⟨[(2, .b false)], [false], [], [0, 4, 5, 6, 7], [0]⟩ 12 ⟨[(0, .one (.c (.d (.str s)))), (4, .one (.c (.own 0 (.int .u8) b))), (5, .one (.c (.d (.int .i64 i)))), (6, .one (.c (.d (.int .i64 r105_1)))), (7, .one (.c (.d (.int .i64 r105_3))))], [(0, some ⟨5, 0⟩)], [], 1⟩ [(decide ((r105_1 : Int) < 0)) = false, (decide ((r105_3 : Int) < 0)) = false] (by kernel_rfl) ⟨b106_2, b106_e0, trivial⟩ ?_
            obtain ⟨g109_0, h⟩ := ifS h
            refine At.step hm ht ⟨[], [], [], [0, 4, 5], [8]⟩ 6 ⟨[(0, .one (.c (.d (.str s)))), (4, .one (.c (.own 0 (.int .u8) (b ++ [(IntKind.wrap .u8 (bits .or .i64 (IntKind.wrap .i64 (r105_1 * 2 ^ 4)) r105_3))])))), (5, .one (.c (.d (.int .i64 i))))], [(0, some ⟨5, 0⟩)], [], 1⟩ [(0 : Int) ≤ 4, b.length + [(IntKind.wrap .u8 (bits .or .i64 (IntKind.wrap .i64 (r105_1 * 2 ^ 4)) r105_3))].length ≤ maxLen ∧ (b.length + [(IntKind.wrap .u8 (bits .or .i64 (IntKind.wrap .i64 (r105_1 * 2 ^ 4)) r105_3))].length) * 1 ≤ 140737488355328] (by kernel_rfl) ⟨(by decide), g109_0, trivial⟩ ?_
            refine At.step hm ht ⟨[], [], [], [0, 4, 5], [0]⟩ 5 ⟨[(0, .one (.c (.d (.str s)))), (4, .one (.c (.own 0 (.int .u8) (b ++ [(IntKind.wrap .u8 (bits .or .i64 (IntKind.wrap .i64 (r105_1 * 2 ^ 4)) r105_3))])))), (5, .one (.c (.d (.int .i64 (IntKind.wrap .i64 (i + 2))))))], [(0, some ⟨5, 0⟩)], [], 1⟩ [] (by kernel_rfl) trivial ?_
            exact ih s (b ++ [(IntKind.wrap .u8 (bits .or .i64 (IntKind.wrap .i64 (r105_1 * 2 ^ 4)) r105_3))]) (IntKind.wrap .i64 (i + 2)) w h o hk
    · refine At.step hm ht ⟨[], [false], [], [4], [0]⟩ 13 ⟨[(4, .one (.c (.own 0 (.int .u8) b)))], [(0, some ⟨5, 0⟩)], [], 1⟩ [(decide ((i : Int) < ((s.size : Nat) : Int))) = false] (by kernel_rfl) ⟨b102_e0, trivial⟩ ?_
      have h := Option.some.inj h
      subst h
      exact hk
def f10_num_Unhex (n : Nat) (s : ByteArray) : Option (List Int × Int) :=
  if (s.toList == (⟨#[45]⟩ : ByteArray).toList) = true then
    some ([], 0)
  else
    (f10_num_Unhex_L5 n s [] 0).bind fun w111 =>
    match w111 with
    | .inl e112 =>
      some (e112.1, e112.2)
    | .inr e113 =>
      if ((((e113.length : Nat) : Int) : Int) == 0) = true then
        some ([], 11)
      else
        some (e113, 0)
theorem f10_num_Unhex_ok (n : Nat) (s : ByteArray) (r : List Int × Int) (h : f10_num_Unhex n s = some r) : FnOK Go.Proofs.Try.prog 10 (f10_num_Unhex_in s) (f10_num_Unhex_out r) := by
  unfold f10_num_Unhex at h
  refine At.fn (r := 0) Go.Proofs.Try.func10 rfl (by kernel_rfl) rfl rfl (by kernel_rfl) ?_
  show At Go.Proofs.Try.prog Go.Proofs.Try.f10 0 0 ⟨[(0, .one (.c (.d (.str s))))], [], [], 0⟩ _
  refine At.step hm ht ⟨[], [], [], [0], []⟩ 1 ⟨[(0, .one (.c (.d (.str s))))], [], [], 0⟩ [] (by kernel_rfl) trivial ?_
  rcases iteS h with ⟨b98_e0, h⟩ | ⟨b98_e0, h⟩
  · refine At.step hm ht ⟨[], [true], [], [], []⟩ 2 ⟨[], [], [], 0⟩ [(s.toList == (⟨#[45]⟩ : ByteArray).toList) = true] (by kernel_rfl) ⟨b98_e0, trivial⟩ ?_
    have h := Option.some.inj h
    subst h
    exact At.fin hm ht ⟨[], [], [.nil false 2 0 (.int .u8) (some 5)], [2, 3], [2]⟩ [] (by kernel_rfl) trivial
  · refine At.step hm ht ⟨[], [false], [], [0], []⟩ 3 ⟨[(0, .one (.c (.d (.str s))))], [], [], 0⟩ [(s.toList == (⟨#[45]⟩ : ByteArray).toList) = false] (by kernel_rfl) ⟨b98_e0, trivial⟩ ?_
    refine At.step hm ht ⟨[], [], [], [0, 4], []⟩ 4 ⟨[(0, .one (.c (.d (.str s)))), (4, .one (.c (.d (.sl .unit []))))], [], [], 0⟩ [] (by kernel_rfl) trivial ?_
    refine At.step hm ht ⟨[], [], [.nil false 4 0 (.int .u8) (some 5)], [0, 4, 5], [1]⟩ 5 ⟨[(0, .one (.c (.d (.str s)))), (4, .one (.c (.own 0 (.int .u8) []))), (5, .one (.c (.d (.int .i64 0))))], [(0, some ⟨5, 0⟩)], [], 1⟩ [] (by kernel_rfl) trivial ?_
    obtain ⟨w111, cw111, h⟩ := bindS h
    refine f10_num_Unhex_L5_ok n s [] 0 w111 cw111 _ ?_
    rcases w111 with e112 | e113
    · have h := Option.some.inj h
      subst h
      rfl
    · show At Go.Proofs.Try.prog Go.Proofs.Try.f10 0 13 ⟨[(4, .one (.c (.own 0 (.int .u8) e113)))], [(0, some ⟨5, 0⟩)], [], 1⟩ _
      rcases iteS h with ⟨b114_e0, h⟩ | ⟨b114_e0, h⟩
      · refine At.step hm ht ⟨[], [true], [], [], []⟩ 14 ⟨[], [], [], 0⟩ [((((e113.length : Nat) : Int) : Int) == 0) = true] (by kernel_rfl) ⟨b114_e0, trivial⟩ ?_
        have h := Option.some.inj h
        subst h
        exact At.fin hm ht ⟨[], [], [.nil false 2 0 (.int .u8) (some 5)], [2, 3], [2]⟩ [] (by kernel_rfl) trivial
      · refine At.step hm ht ⟨[], [false], [], [4], [0]⟩ 15 ⟨[(4, .one (.c (.own 0 (.int .u8) e113)))], [(0, some ⟨5, 0⟩)], [], 1⟩ [((((e113.length : Nat) : Int) : Int) == 0) = false] (by kernel_rfl) ⟨b114_e0, trivial⟩ ?_
        have h := Option.some.inj h
        subst h
        exact At.fin hm ht ⟨[], [], [], [2, 3], [0]⟩ [] (by kernel_rfl) trivial
/-! brougham/broughamref01.digit -/
def f16_broughamref01_digit_in (c : Int) : Inn := ⟨[.c (.d (.int .u8 c))], [], [], 0⟩
def f16_broughamref01_digit_out (r : Int) : Out := ⟨.one (.c (.d (.int .i64 r))), [], [], 0⟩
def f16_broughamref01_digit (c : Int) : Option (Int) :=
  if (decide ((c : Int) ≥ 48)) = true then
    if (decide ((c : Int) ≤ 57)) = true then
      some (IntKind.wrap .i64 ((IntKind.wrap .i64 c) - 48))
    else
      if (decide ((c : Int) ≥ 97)) = true then
        if (decide ((c : Int) ≤ 102)) = true then
          some (IntKind.wrap .i64 ((IntKind.wrap .i64 ((IntKind.wrap .i64 c) - 97)) + 10))
        else
          some (-1)
      else
        some (-1)
  else
    if (decide ((c : Int) ≥ 97)) = true then
      if (decide ((c : Int) ≤ 102)) = true then
        some (IntKind.wrap .i64 ((IntKind.wrap .i64 ((IntKind.wrap .i64 c) - 97)) + 10))
      else
        some (-1)
    else
      some (-1)
theorem f16_broughamref01_digit_ok (c : Int) (r : Int) (h : f16_broughamref01_digit c = some r) : FnOK Go.Proofs.Try.prog 16 (f16_broughamref01_digit_in c) (f16_broughamref01_digit_out r) := by
  unfold f16_broughamref01_digit at h
  refine At.fn (r := 0) Go.Proofs.Try.func16 rfl (by kernel_rfl) rfl rfl (by kernel_rfl) ?_
  show At Go.Proofs.Try.prog Go.Proofs.Try.f16 0 0 ⟨[(0, .one (.c (.d (.int .u8 c))))], [], [], 0⟩ _
  refine At.step hm ht ⟨[], [], [], [0], []⟩ 1 ⟨[(0, .one (.c (.d (.int .u8 c))))], [], [], 0⟩ [] (by kernel_rfl) trivial ?_
  rcases iteS h with ⟨b129_2, h⟩ | ⟨b129_2, h⟩
  · rcases iteS h with ⟨b129_e0, h⟩ | ⟨b129_e0, h⟩
    · refine At.step hm ht ⟨[(2, .b true)], [true], [], [0], []⟩ 2 ⟨[(0, .one (.c (.d (.int .u8 c))))], [], [], 0⟩ [(decide ((c : Int) ≥ 48)) = true, (decide ((c : Int) ≤ 57)) = true] (by kernel_rfl) ⟨b129_2, b129_e0, trivial⟩ ?_
      have h := Option.some.inj h
      subst h
      exact At.fin hm ht ⟨[], [], [], [2], []⟩ [] (by kernel_rfl) trivial
    · refine At.step hm ht ⟨[(2, .b true)], [false], [], [0], []⟩ 3 ⟨[(0, .one (.c (.d (.int .u8 c))))], [], [], 0⟩ [(decide ((c : Int) ≥ 48)) = true, (decide ((c : Int) ≤ 57)) = false] (by kernel_rfl) ⟨b129_2, b129_e0, trivial⟩ ?_
      rcases iteS h with ⟨b131_2, h⟩ | ⟨b131_2, h⟩
      · rcases iteS h with ⟨b131_e0, h⟩ | ⟨b131_e0, h⟩
        · refine At.step hm ht ⟨[(2, .b true)], [true], [], [0], []⟩ 4 ⟨[(0, .one (.c (.d (.int .u8 c))))], [], [], 0⟩ [(decide ((c : Int) ≥ 97)) = true, (decide ((c : Int) ≤ 102)) = true] (by kernel_rfl) ⟨b131_2, b131_e0, trivial⟩ ?_
          have h := Option.some.inj h
          subst h
          exact At.fin hm ht ⟨[], [], [], [2], []⟩ [] (by kernel_rfl) trivial
        · refine At.step hm ht ⟨[(2, .b true)], [false], [], [], []⟩ 5 ⟨[], [], [], 0⟩ [(decide ((c : Int) ≥ 97)) = true, (decide ((c : Int) ≤ 102)) = false] (by kernel_rfl) ⟨b131_2, b131_e0, trivial⟩ ?_
          have h := Option.some.inj h
          subst h
          exact At.fin hm ht ⟨[], [], [], [2], []⟩ [] (by kernel_rfl) trivial
      · refine At.step hm ht ⟨[(2, .b false)], [false], [], [], []⟩ 5 ⟨[], [], [], 0⟩ [(decide ((c : Int) ≥ 97)) = false, false = false] (by kernel_rfl) ⟨b131_2, rfl, trivial⟩ ?_
        have h := Option.some.inj h
        subst h
        exact At.fin hm ht ⟨[], [], [], [2], []⟩ [] (by kernel_rfl) trivial
  · refine At.step hm ht ⟨[(2, .b false)], [false], [], [0], []⟩ 3 ⟨[(0, .one (.c (.d (.int .u8 c))))], [], [], 0⟩ [(decide ((c : Int) ≥ 48)) = false, false = false] (by kernel_rfl) ⟨b129_2, rfl, trivial⟩ ?_
    rcases iteS h with ⟨b135_2, h⟩ | ⟨b135_2, h⟩
    · rcases iteS h with ⟨b135_e0, h⟩ | ⟨b135_e0, h⟩
      · refine At.step hm ht ⟨[(2, .b true)], [true], [], [0], []⟩ 4 ⟨[(0, .one (.c (.d (.int .u8 c))))], [], [], 0⟩ [(decide ((c : Int) ≥ 97)) = true, (decide ((c : Int) ≤ 102)) = true] (by kernel_rfl) ⟨b135_2, b135_e0, trivial⟩ ?_
        have h := Option.some.inj h
        subst h
        exact At.fin hm ht ⟨[], [], [], [2], []⟩ [] (by kernel_rfl) trivial
      · refine At.step hm ht ⟨[(2, .b true)], [false], [], [], []⟩ 5 ⟨[], [], [], 0⟩ [(decide ((c : Int) ≥ 97)) = true, (decide ((c : Int) ≤ 102)) = false] (by kernel_rfl) ⟨b135_2, b135_e0, trivial⟩ ?_
        have h := Option.some.inj h
        subst h
        exact At.fin hm ht ⟨[], [], [], [2], []⟩ [] (by kernel_rfl) trivial
    · refine At.step hm ht ⟨[(2, .b false)], [false], [], [], []⟩ 5 ⟨[], [], [], 0⟩ [(decide ((c : Int) ≥ 97)) = false, false = false] (by kernel_rfl) ⟨b135_2, rfl, trivial⟩ ?_
      have h := Option.some.inj h
      subst h
      exact At.fin hm ht ⟨[], [], [], [2], []⟩ [] (by kernel_rfl) trivial
/-! brougham/broughamref01.Unhex -/
def f11_broughamref01_Unhex_in (s : ByteArray) : Inn := ⟨[.c (.d (.str s))], [], [], 0⟩
def f11_broughamref01_Unhex_out (r : List Int × Int) : Out := ⟨.tup [.c (.own 0 (.int .u8) r.1), .c (.d (.int .i64 r.2))], [(0, ⟨5, 0⟩)], [], 1⟩
def f11_broughamref01_Unhex_L7 : Nat → ByteArray → (List Int) → Int → Option ((List Int × Int) ⊕ (List Int))
  | 0, _, _, _ => none
  | n + 1, s, b, i =>
    if (decide ((i : Int) < ((s.size : Nat) : Int))) = true then
      if (0 : Int) ≤ i ∧ i < (((s).size : Nat) : Int) then
      (f16_broughamref01_digit (byteAt s i)).bind fun r170_1 =>
      if (decide ((r170_1 : Int) < 0)) = true then
        some (.inl ([], 11))
      else
        if (0 : Int) ≤ (IntKind.wrap .i64 (i + 1)) ∧ (IntKind.wrap .i64 (i + 1)) < (((s).size : Nat) : Int) then
        (f16_broughamref01_digit (byteAt s (IntKind.wrap .i64 (i + 1)))).bind fun r170_3 =>
        if (decide ((r170_3 : Int) < 0)) = true then
          some (.inl ([], 11))
        else
          if (0 : Int) ≤ i ∧ i < (((s).size : Nat) : Int) then
          (f16_broughamref01_digit (byteAt s i)).bind fun r173_1 =>
          if (0 : Int) ≤ (IntKind.wrap .i64 (i + 1)) ∧ (IntKind.wrap .i64 (i + 1)) < (((s).size : Nat) : Int) then
          (f16_broughamref01_digit (byteAt s (IntKind.wrap .i64 (i + 1)))).bind fun r173_3 =>
          if b.length + [(IntKind.wrap .u8 (IntKind.wrap .i64 ((IntKind.wrap .i64 (r173_1 * 16)) + r173_3)))].length ≤ maxLen ∧ (b.length + [(IntKind.wrap .u8 (IntKind.wrap .i64 ((IntKind.wrap .i64 (r173_1 * 16)) + r173_3)))].length) * 1 ≤ 140737488355328 then
          f11_broughamref01_Unhex_L7 n s (b ++ [(IntKind.wrap .u8 (IntKind.wrap .i64 ((IntKind.wrap .i64 (r173_1 * 16)) + r173_3)))]) (IntKind.wrap .i64 (i + 2))
          else none
          else none
          else none
        else none
      else none
    else
      some (.inr b)
def f11_broughamref01_Unhex_L7_k (w : (List Int × Int) ⊕ (List Int)) (o : Out) : Prop := match w with
  | .inl e => o = f11_broughamref01_Unhex_out e
  | .inr e => At Go.Proofs.Try.prog Go.Proofs.Try.f11 0 12 ⟨[(4, .one (.c (.own 0 (.int .u8) e)))], [(0, some ⟨5, 0⟩)], [], 1⟩ o
theorem f11_broughamref01_Unhex_L7_ok (n : Nat) : ∀ (s : ByteArray) (b : List Int) (i : Int) (w : (List Int × Int) ⊕ (List Int)) (h : f11_broughamref01_Unhex_L7 n s b i = some w) (o : Out) (hk : f11_broughamref01_Unhex_L7_k w o), At Go.Proofs.Try.prog Go.Proofs.Try.f11 0 7 ⟨[(0, .one (.c (.d (.str s)))), (4, .one (.c (.own 0 (.int .u8) b))), (5, .one (.c (.d (.int .i64 i))))], [(0, some ⟨5, 0⟩)], [], 1⟩ o := by
  induction n with
  | zero => intro s b i w h; rw [f11_broughamref01_Unhex_L7] at h; cases h
  | succ n ih =>
    intro s b i w h o hk
    rw [f11_broughamref01_Unhex_L7] at h
    rcases iteS h with ⟨b169_e0, h⟩ | ⟨b169_e0, h⟩
    · refine At.step hm ht ⟨[], [true], [], [0, 4, 5], [0]⟩ 9 ⟨[(0, .one (.c (.d (.str s)))), (4, .one (.c (.own 0 (.int .u8) b))), (5, .one (.c (.d (.int .i64 i))))], [(0, some ⟨5, 0⟩)], [], 1⟩ [(decide ((i : Int) < ((s.size : Nat) : Int))) = true] (by kernel_rfl) ⟨b169_e0, trivial⟩ ?_
      obtain ⟨g170_0, h⟩ := ifS h
      obtain ⟨r170_1, cr170_1, h⟩ := bindS h
      rcases iteS h with ⟨b170_5, h⟩ | ⟨b170_5, h⟩
      · refine At.step hm ht ⟨[(3, .call [] [] (f16_broughamref01_digit_out r170_1)), (5, .b true)], [true], [], [], []⟩ 10 ⟨[], [], [], 0⟩ [(0 : Int) ≤ i ∧ i < (((s).size : Nat) : Int), FnOK Go.Proofs.Try.prog 16 (f16_broughamref01_digit_in (byteAt s i)) (f16_broughamref01_digit_out r170_1), (decide ((r170_1 : Int) < 0)) = true, true = true] (by kernel_rfl) ⟨g170_0, (f16_broughamref01_digit_ok (byteAt s i) r170_1 cr170_1), b170_5, rfl, trivial⟩ ?_
        have h := Option.some.inj h
        subst h
        have hk : o = f11_broughamref01_Unhex_out ([], 11) := hk
        subst hk
        exact At.fin hm ht ⟨[], [], [.nil false 2 0 (.int .u8) (some 5)], [2, 3], [2]⟩ [] (by kernel_rfl) trivial
      · obtain ⟨g170_2, h⟩ := ifS h
        obtain ⟨r170_3, cr170_3, h⟩ := bindS h
        rcases iteS h with ⟨b170_e0, h⟩ | ⟨b170_e0, h⟩
        · refine At.step hm ht ⟨[(3, .call [] [] (f16_broughamref01_digit_out r170_1)), (5, .b false), (10, .call [] [] (f16_broughamref01_digit_out r170_3))], [true], [], [], []⟩ 10 ⟨[], [], [], 0⟩ [(0 : Int) ≤ i ∧ i < (((s).size : Nat) : Int), FnOK Go.Proofs.Try.prog 16 (f16_broughamref01_digit_in (byteAt s i)) (f16_broughamref01_digit_out r170_1), (decide ((r170_1 : Int) < 0)) = false, (0 : Int) ≤ (IntKind.wrap .i64 (i + 1)) ∧ (IntKind.wrap .i64 (i + 1)) < (((s).size : Nat) : Int), FnOK Go.Proofs.Try.prog 16 (f16_broughamref01_digit_in (byteAt s (IntKind.wrap .i64 (i + 1)))) (f16_broughamref01_digit_out r170_3), (decide ((r170_3 : Int) < 0)) = true] (by kernel_rfl) ⟨g170_0, (f16_broughamref01_digit_ok (byteAt s i) r170_1 cr170_1), b170_5, g170_2, (f16_broughamref01_digit_ok (byteAt s (IntKind.wrap .i64 (i + 1))) r170_3 cr170_3), b170_e0, trivial⟩ ?_
          have h := Option.some.inj h
          subst h
          have hk : o = f11_broughamref01_Unhex_out ([], 11) := hk
          subst hk
          exact At.fin hm ht ⟨[], [], [.nil false 2 0 (.int .u8) (some 5)], [2, 3], [2]⟩ [] (by kernel_rfl) trivial
        · refine At.step hm ht ⟨[(3, .call [] [] (f16_broughamref01_digit_out r170_1)), (5, .b false), (10, .call [] [] (f16_broughamref01_digit_out r170_3))], [false], [], [0, 4, 5], [0]⟩ 11 ⟨[(0, .one (.c (.d (.str s)))), (4, .one (.c (.own 0 (.int .u8) b))), (5, .one (.c (.d (.int .i64 i))))], [(0, some ⟨5, 0⟩)], [], 1⟩ [(0 : Int) ≤ i ∧ i < (((s).size : Nat) : Int), FnOK Go.Proofs.Try.prog 16 (f16_broughamref01_digit_in (byteAt s i)) (f16_broughamref01_digit_out r170_1), (decide ((r170_1 : Int) < 0)) = false, (0 : Int) ≤ (IntKind.wrap .i64 (i + 1)) ∧ (IntKind.wrap .i64 (i + 1)) < (((s).size : Nat) : Int), FnOK Go.Proofs.Try.prog 16 (f16_broughamref01_digit_in (byteAt s (IntKind.wrap .i64 (i + 1)))) (f16_broughamref01_digit_out r170_3), (decide ((r170_3 : Int) < 0)) = false] (by kernel_rfl) ⟨g170_0, (f16_broughamref01_digit_ok (byteAt s i) r170_1 cr170_1), b170_5, g170_2, (f16_broughamref01_digit_ok (byteAt s (IntKind.wrap .i64 (i + 1))) r170_3 cr170_3), b170_e0, trivial⟩ ?_
          obtain ⟨g173_0, h⟩ := ifS h
          obtain ⟨r173_1, cr173_1, h⟩ := bindS h
          obtain ⟨g173_2, h⟩ := ifS h
          obtain ⟨r173_3, cr173_3, h⟩ := bindS h
          obtain ⟨g173_4, h⟩ := ifS h
          refine At.step hm ht ⟨[(4, .call [] [] (f16_broughamref01_digit_out r173_1)), (10, .call [] [] (f16_broughamref01_digit_out r173_3))], [], [], [0, 4, 5], [13]⟩ 8 ⟨[(0, .one (.c (.d (.str s)))), (4, .one (.c (.own 0 (.int .u8) (b ++ [(IntKind.wrap .u8 (IntKind.wrap .i64 ((IntKind.wrap .i64 (r173_1 * 16)) + r173_3)))])))), (5, .one (.c (.d (.int .i64 i))))], [(0, some ⟨5, 0⟩)], [], 1⟩ [(0 : Int) ≤ i ∧ i < (((s).size : Nat) : Int), FnOK Go.Proofs.Try.prog 16 (f16_broughamref01_digit_in (byteAt s i)) (f16_broughamref01_digit_out r173_1), (0 : Int) ≤ (IntKind.wrap .i64 (i + 1)) ∧ (IntKind.wrap .i64 (i + 1)) < (((s).size : Nat) : Int), FnOK Go.Proofs.Try.prog 16 (f16_broughamref01_digit_in (byteAt s (IntKind.wrap .i64 (i + 1)))) (f16_broughamref01_digit_out r173_3), b.length + [(IntKind.wrap .u8 (IntKind.wrap .i64 ((IntKind.wrap .i64 (r173_1 * 16)) + r173_3)))].length ≤ maxLen ∧ (b.length + [(IntKind.wrap .u8 (IntKind.wrap .i64 ((IntKind.wrap .i64 (r173_1 * 16)) + r173_3)))].length) * 1 ≤ 140737488355328] (by kernel_rfl) ⟨g173_0, (f16_broughamref01_digit_ok (byteAt s i) r173_1 cr173_1), g173_2, (f16_broughamref01_digit_ok (byteAt s (IntKind.wrap .i64 (i + 1))) r173_3 cr173_3), g173_4, trivial⟩ ?_
          refine At.step hm ht ⟨[], [], [], [0, 4, 5], [0]⟩ 7 ⟨[(0, .one (.c (.d (.str s)))), (4, .one (.c (.own 0 (.int .u8) (b ++ [(IntKind.wrap .u8 (IntKind.wrap .i64 ((IntKind.wrap .i64 (r173_1 * 16)) + r173_3)))])))), (5, .one (.c (.d (.int .i64 (IntKind.wrap .i64 (i + 2))))))], [(0, some ⟨5, 0⟩)], [], 1⟩ [] (by kernel_rfl) trivial ?_
          exact ih s (b ++ [(IntKind.wrap .u8 (IntKind.wrap .i64 ((IntKind.wrap .i64 (r173_1 * 16)) + r173_3)))]) (IntKind.wrap .i64 (i + 2)) w h o hk
    · refine At.step hm ht ⟨[], [false], [], [4], [0]⟩ 12 ⟨[(4, .one (.c (.own 0 (.int .u8) b)))], [(0, some ⟨5, 0⟩)], [], 1⟩ [(decide ((i : Int) < ((s.size : Nat) : Int))) = false] (by kernel_rfl) ⟨b169_e0, trivial⟩ ?_
      have h := Option.some.inj h
      subst h
      exact hk
def f11_broughamref01_Unhex (n : Nat) (s : ByteArray) : Option (List Int × Int) :=
  if (s.toList == (⟨#[45]⟩ : ByteArray).toList) = true then
    some ([], 0)
  else
    if (s.toList == (⟨#[]⟩ : ByteArray).toList) = true then
      some ([], 11)
    else
      if (((Int.tmod ((s.size : Nat) : Int) 2) : Int) == 1) = true then
        some ([], 11)
      else
        (f11_broughamref01_Unhex_L7 n s [] 0).bind fun w175 =>
        match w175 with
        | .inl e176 =>
          some (e176.1, e176.2)
        | .inr e177 =>
          some (e177, 0)
theorem f11_broughamref01_Unhex_ok (n : Nat) (s : ByteArray) (r : List Int × Int) (h : f11_broughamref01_Unhex n s = some r) : FnOK Go.Proofs.Try.prog 11 (f11_broughamref01_Unhex_in s) (f11_broughamref01_Unhex_out r) := by
  unfold f11_broughamref01_Unhex at h
  refine At.fn (r := 0) Go.Proofs.Try.func11 rfl (by kernel_rfl) rfl rfl (by kernel_rfl) ?_
  show At Go.Proofs.Try.prog Go.Proofs.Try.f11 0 0 ⟨[(0, .one (.c (.d (.str s))))], [], [], 0⟩ _
  refine At.step hm ht ⟨[], [], [], [0], []⟩ 1 ⟨[(0, .one (.c (.d (.str s))))], [], [], 0⟩ [] (by kernel_rfl) trivial ?_
  rcases iteS h with ⟨b162_e0, h⟩ | ⟨b162_e0, h⟩
  · refine At.step hm ht ⟨[], [true], [], [], []⟩ 2 ⟨[], [], [], 0⟩ [(s.toList == (⟨#[45]⟩ : ByteArray).toList) = true] (by kernel_rfl) ⟨b162_e0, trivial⟩ ?_
    have h := Option.some.inj h
    subst h
    exact At.fin hm ht ⟨[], [], [.nil false 2 0 (.int .u8) (some 5)], [2, 3], [2]⟩ [] (by kernel_rfl) trivial
  · refine At.step hm ht ⟨[], [false], [], [0], []⟩ 3 ⟨[(0, .one (.c (.d (.str s))))], [], [], 0⟩ [(s.toList == (⟨#[45]⟩ : ByteArray).toList) = false] (by kernel_rfl) ⟨b162_e0, trivial⟩ ?_
    rcases iteS h with ⟨b164_2, h⟩ | ⟨b164_2, h⟩
    · refine At.step hm ht ⟨[(2, .b true)], [true], [], [], []⟩ 4 ⟨[], [], [], 0⟩ [(s.toList == (⟨#[]⟩ : ByteArray).toList) = true, true = true] (by kernel_rfl) ⟨b164_2, rfl, trivial⟩ ?_
      have h := Option.some.inj h
      subst h
      exact At.fin hm ht ⟨[], [], [.nil false 2 0 (.int .u8) (some 5)], [2, 3], [2]⟩ [] (by kernel_rfl) trivial
    · rcases iteS h with ⟨b164_e0, h⟩ | ⟨b164_e0, h⟩
      · refine At.step hm ht ⟨[(2, .b false)], [true], [], [], []⟩ 4 ⟨[], [], [], 0⟩ [(s.toList == (⟨#[]⟩ : ByteArray).toList) = false, (2 : Int) ≠ 0, (((Int.tmod ((s.size : Nat) : Int) 2) : Int) == 1) = true] (by kernel_rfl) ⟨b164_2, (by decide), b164_e0, trivial⟩ ?_
        have h := Option.some.inj h
        subst h
        exact At.fin hm ht ⟨[], [], [.nil false 2 0 (.int .u8) (some 5)], [2, 3], [2]⟩ [] (by kernel_rfl) trivial
      · refine At.step hm ht ⟨[(2, .b false)], [false], [], [0], []⟩ 5 ⟨[(0, .one (.c (.d (.str s))))], [], [], 0⟩ [(s.toList == (⟨#[]⟩ : ByteArray).toList) = false, (2 : Int) ≠ 0, (((Int.tmod ((s.size : Nat) : Int) 2) : Int) == 1) = false] (by kernel_rfl) ⟨b164_2, (by decide), b164_e0, trivial⟩ ?_
        refine At.step hm ht ⟨[], [], [], [0, 4], []⟩ 6 ⟨[(0, .one (.c (.d (.str s)))), (4, .one (.c (.d (.sl .unit []))))], [], [], 0⟩ [] (by kernel_rfl) trivial ?_
        refine At.step hm ht ⟨[], [], [.nil false 4 0 (.int .u8) (some 5)], [0, 4, 5], [1]⟩ 7 ⟨[(0, .one (.c (.d (.str s)))), (4, .one (.c (.own 0 (.int .u8) []))), (5, .one (.c (.d (.int .i64 0))))], [(0, some ⟨5, 0⟩)], [], 1⟩ [] (by kernel_rfl) trivial ?_
        obtain ⟨w175, cw175, h⟩ := bindS h
        refine f11_broughamref01_Unhex_L7_ok n s [] 0 w175 cw175 _ ?_
        rcases w175 with e176 | e177
        · have h := Option.some.inj h
          subst h
          rfl
        · show At Go.Proofs.Try.prog Go.Proofs.Try.f11 0 12 ⟨[(4, .one (.c (.own 0 (.int .u8) e177)))], [(0, some ⟨5, 0⟩)], [], 1⟩ _
          have h := Option.some.inj h
          subst h
          exact At.fin hm ht ⟨[], [], [], [2, 3], [0]⟩ [] (by kernel_rfl) trivial
/-! brougham/broughamref01.Hex -/
def f13_broughamref01_Hex_in (b : List Int) : Inn := ⟨[.c (.d (.sl (.int .u8) b))], [], [], 0⟩
def f13_broughamref01_Hex_out (r : ByteArray) : Out := ⟨.one (.c (.d (.str r))), [], [], 0⟩
def f13_broughamref01_Hex_L5 : Nat → (List Int) → (List Int) → Int → Option (List Int)
  | 0, _, _, _ => none
  | n + 1, b, s, i =>
    if (decide ((i : Int) < ((b.length : Nat) : Int))) = true then
      if (0 : Int) ≤ i ∧ i < (((b).length : Nat) : Int) then
      if (0 : Int) ≤ (IntKind.wrap .u8 (Int.tdiv (b.getD i.toNat 0) 16)) ∧ (IntKind.wrap .u8 (Int.tdiv (b.getD i.toNat 0) 16)) < ((((⟨#[48, 49, 50, 51, 52, 53, 54, 55, 56, 57, 97, 98, 99, 100, 101, 102]⟩ : ByteArray)).size : Nat) : Int) then
      if (0 : Int) ≤ i ∧ i < (((b).length : Nat) : Int) then
      if (0 : Int) ≤ (Int.tmod (b.getD i.toNat 0) 16) ∧ (Int.tmod (b.getD i.toNat 0) 16) < ((((⟨#[48, 49, 50, 51, 52, 53, 54, 55, 56, 57, 97, 98, 99, 100, 101, 102]⟩ : ByteArray)).size : Nat) : Int) then
      if s.length + [(byteAt (⟨#[48, 49, 50, 51, 52, 53, 54, 55, 56, 57, 97, 98, 99, 100, 101, 102]⟩ : ByteArray) (IntKind.wrap .u8 (Int.tdiv (b.getD i.toNat 0) 16))), (byteAt (⟨#[48, 49, 50, 51, 52, 53, 54, 55, 56, 57, 97, 98, 99, 100, 101, 102]⟩ : ByteArray) (Int.tmod (b.getD i.toNat 0) 16))].length ≤ maxLen ∧ (s.length + [(byteAt (⟨#[48, 49, 50, 51, 52, 53, 54, 55, 56, 57, 97, 98, 99, 100, 101, 102]⟩ : ByteArray) (IntKind.wrap .u8 (Int.tdiv (b.getD i.toNat 0) 16))), (byteAt (⟨#[48, 49, 50, 51, 52, 53, 54, 55, 56, 57, 97, 98, 99, 100, 101, 102]⟩ : ByteArray) (Int.tmod (b.getD i.toNat 0) 16))].length) * 1 ≤ 140737488355328 then
      f13_broughamref01_Hex_L5 n b (s ++ [(byteAt (⟨#[48, 49, 50, 51, 52, 53, 54, 55, 56, 57, 97, 98, 99, 100, 101, 102]⟩ : ByteArray) (IntKind.wrap .u8 (Int.tdiv (b.getD i.toNat 0) 16))), (byteAt (⟨#[48, 49, 50, 51, 52, 53, 54, 55, 56, 57, 97, 98, 99, 100, 101, 102]⟩ : ByteArray) (Int.tmod (b.getD i.toNat 0) 16))]) (IntKind.wrap .i64 (i + 1))
      else none
      else none
      else none
      else none
      else none
    else
      some (s)
def f13_broughamref01_Hex_L5_k (e : List Int) (o : Out) : Prop := At Go.Proofs.Try.prog Go.Proofs.Try.f13 0 8 ⟨[(3, .one (.c (.own 0 (.int .u8) e)))], [(0, some ⟨5, 0⟩)], [], 1⟩ o
theorem f13_broughamref01_Hex_L5_ok (n : Nat) : ∀ (b : List Int) (s : List Int) (i : Int) (w : List Int) (h : f13_broughamref01_Hex_L5 n b s i = some w) (o : Out) (hk : f13_broughamref01_Hex_L5_k w o), At Go.Proofs.Try.prog Go.Proofs.Try.f13 0 5 ⟨[(0, .one (.c (.d (.sl (.int .u8) b)))), (3, .one (.c (.own 0 (.int .u8) s))), (4, .one (.c (.d (.int .i64 i))))], [(0, some ⟨5, 0⟩)], [], 1⟩ o := by
  induction n with
  | zero => intro b s i w h; rw [f13_broughamref01_Hex_L5] at h; cases h
  | succ n ih =>
    intro b s i w h o hk
    rw [f13_broughamref01_Hex_L5] at h
    rcases iteS h with ⟨b194_e0, h⟩ | ⟨b194_e0, h⟩
    · refine At.step hm ht ⟨[], [true], [], [0, 3, 4], [0]⟩ 7 ⟨[(0, .one (.c (.d (.sl (.int .u8) b)))), (3, .one (.c (.own 0 (.int .u8) s))), (4, .one (.c (.d (.int .i64 i))))], [(0, some ⟨5, 0⟩)], [], 1⟩ [(decide ((i : Int) < ((b.length : Nat) : Int))) = true] (by kernel_rfl) ⟨b194_e0, trivial⟩ ?_
      obtain ⟨g195_0, h⟩ := ifS h
      obtain ⟨g195_1, h⟩ := ifS h
      obtain ⟨g195_2, h⟩ := ifS h
      obtain ⟨g195_3, h⟩ := ifS h
      obtain ⟨g195_4, h⟩ := ifS h
      refine At.step hm ht ⟨[], [], [], [0, 3, 4], [15]⟩ 6 ⟨[(0, .one (.c (.d (.sl (.int .u8) b)))), (3, .one (.c (.own 0 (.int .u8) (s ++ [(byteAt (⟨#[48, 49, 50, 51, 52, 53, 54, 55, 56, 57, 97, 98, 99, 100, 101, 102]⟩ : ByteArray) (IntKind.wrap .u8 (Int.tdiv (b.getD i.toNat 0) 16))), (byteAt (⟨#[48, 49, 50, 51, 52, 53, 54, 55, 56, 57, 97, 98, 99, 100, 101, 102]⟩ : ByteArray) (Int.tmod (b.getD i.toNat 0) 16))])))), (4, .one (.c (.d (.int .i64 i))))], [(0, some ⟨5, 0⟩)], [], 1⟩ [(0 : Int) ≤ i ∧ i < (((b).length : Nat) : Int), (16 : Int) ≠ 0, (0 : Int) ≤ (IntKind.wrap .u8 (Int.tdiv (b.getD i.toNat 0) 16)) ∧ (IntKind.wrap .u8 (Int.tdiv (b.getD i.toNat 0) 16)) < ((((⟨#[48, 49, 50, 51, 52, 53, 54, 55, 56, 57, 97, 98, 99, 100, 101, 102]⟩ : ByteArray)).size : Nat) : Int), (0 : Int) ≤ i ∧ i < (((b).length : Nat) : Int), (16 : Int) ≠ 0, (0 : Int) ≤ (Int.tmod (b.getD i.toNat 0) 16) ∧ (Int.tmod (b.getD i.toNat 0) 16) < ((((⟨#[48, 49, 50, 51, 52, 53, 54, 55, 56, 57, 97, 98, 99, 100, 101, 102]⟩ : ByteArray)).size : Nat) : Int), s.length + [(byteAt (⟨#[48, 49, 50, 51, 52, 53, 54, 55, 56, 57, 97, 98, 99, 100, 101, 102]⟩ : ByteArray) (IntKind.wrap .u8 (Int.tdiv (b.getD i.toNat 0) 16))), (byteAt (⟨#[48, 49, 50, 51, 52, 53, 54, 55, 56, 57, 97, 98, 99, 100, 101, 102]⟩ : ByteArray) (Int.tmod (b.getD i.toNat 0) 16))].length ≤ maxLen ∧ (s.length + [(byteAt (⟨#[48, 49, 50, 51, 52, 53, 54, 55, 56, 57, 97, 98, 99, 100, 101, 102]⟩ : ByteArray) (IntKind.wrap .u8 (Int.tdiv (b.getD i.toNat 0) 16))), (byteAt (⟨#[48, 49, 50, 51, 52, 53, 54, 55, 56, 57, 97, 98, 99, 100, 101, 102]⟩ : ByteArray) (Int.tmod (b.getD i.toNat 0) 16))].length) * 1 ≤ 140737488355328] (by kernel_rfl) ⟨g195_0, (by decide), g195_1, g195_2, (by decide), g195_3, g195_4, trivial⟩ ?_
      refine At.step hm ht ⟨[], [], [], [0, 3, 4], [0]⟩ 5 ⟨[(0, .one (.c (.d (.sl (.int .u8) b)))), (3, .one (.c (.own 0 (.int .u8) (s ++ [(byteAt (⟨#[48, 49, 50, 51, 52, 53, 54, 55, 56, 57, 97, 98, 99, 100, 101, 102]⟩ : ByteArray) (IntKind.wrap .u8 (Int.tdiv (b.getD i.toNat 0) 16))), (byteAt (⟨#[48, 49, 50, 51, 52, 53, 54, 55, 56, 57, 97, 98, 99, 100, 101, 102]⟩ : ByteArray) (Int.tmod (b.getD i.toNat 0) 16))])))), (4, .one (.c (.d (.int .i64 (IntKind.wrap .i64 (i + 1))))))], [(0, some ⟨5, 0⟩)], [], 1⟩ [] (by kernel_rfl) trivial ?_
      exact ih b (s ++ [(byteAt (⟨#[48, 49, 50, 51, 52, 53, 54, 55, 56, 57, 97, 98, 99, 100, 101, 102]⟩ : ByteArray) (IntKind.wrap .u8 (Int.tdiv (b.getD i.toNat 0) 16))), (byteAt (⟨#[48, 49, 50, 51, 52, 53, 54, 55, 56, 57, 97, 98, 99, 100, 101, 102]⟩ : ByteArray) (Int.tmod (b.getD i.toNat 0) 16))]) (IntKind.wrap .i64 (i + 1)) w h o hk
    · refine At.step hm ht ⟨[], [false], [], [3], [0]⟩ 8 ⟨[(3, .one (.c (.own 0 (.int .u8) s)))], [(0, some ⟨5, 0⟩)], [], 1⟩ [(decide ((i : Int) < ((b.length : Nat) : Int))) = false] (by kernel_rfl) ⟨b194_e0, trivial⟩ ?_
      have h := Option.some.inj h
      subst h
      exact hk
def f13_broughamref01_Hex (n : Nat) (b : List Int) : Option (ByteArray) :=
  if ((((b.length : Nat) : Int) : Int) == 0) = true then
    some (⟨#[45]⟩ : ByteArray)
  else
    (f13_broughamref01_Hex_L5 n b [] 0).bind fun w197 =>
    some (strOfNums w197)
theorem f13_broughamref01_Hex_ok (n : Nat) (b : List Int) (r : ByteArray) (h : f13_broughamref01_Hex n b = some r) : FnOK Go.Proofs.Try.prog 13 (f13_broughamref01_Hex_in b) (f13_broughamref01_Hex_out r) := by
  unfold f13_broughamref01_Hex at h
  refine At.fn (r := 0) Go.Proofs.Try.func13 rfl (by kernel_rfl) rfl rfl (by kernel_rfl) ?_
  show At Go.Proofs.Try.prog Go.Proofs.Try.f13 0 0 ⟨[(0, .one (.c (.d (.sl (.int .u8) b))))], [], [], 0⟩ _
  refine At.step hm ht ⟨[], [], [], [0], []⟩ 1 ⟨[(0, .one (.c (.d (.sl (.int .u8) b))))], [], [], 0⟩ [] (by kernel_rfl) trivial ?_
  rcases iteS h with ⟨b190_e0, h⟩ | ⟨b190_e0, h⟩
  · refine At.step hm ht ⟨[], [true], [], [], []⟩ 2 ⟨[], [], [], 0⟩ [((((b.length : Nat) : Int) : Int) == 0) = true] (by kernel_rfl) ⟨b190_e0, trivial⟩ ?_
    have h := Option.some.inj h
    subst h
    exact At.fin hm ht ⟨[], [], [], [2], []⟩ [] (by kernel_rfl) trivial
  · refine At.step hm ht ⟨[], [false], [], [0], []⟩ 3 ⟨[(0, .one (.c (.d (.sl (.int .u8) b))))], [], [], 0⟩ [((((b.length : Nat) : Int) : Int) == 0) = false] (by kernel_rfl) ⟨b190_e0, trivial⟩ ?_
    refine At.step hm ht ⟨[], [], [], [0, 3], []⟩ 4 ⟨[(0, .one (.c (.d (.sl (.int .u8) b)))), (3, .one (.c (.d (.sl .unit []))))], [], [], 0⟩ [] (by kernel_rfl) trivial ?_
    refine At.step hm ht ⟨[], [], [.nil false 3 0 (.int .u8) (some 5)], [0, 3, 4], [1]⟩ 5 ⟨[(0, .one (.c (.d (.sl (.int .u8) b)))), (3, .one (.c (.own 0 (.int .u8) []))), (4, .one (.c (.d (.int .i64 0))))], [(0, some ⟨5, 0⟩)], [], 1⟩ [] (by kernel_rfl) trivial ?_
    obtain ⟨w197, cw197, h⟩ := bindS h
    refine f13_broughamref01_Hex_L5_ok n b [] 0 w197 cw197 _ ?_
    show At Go.Proofs.Try.prog Go.Proofs.Try.f13 0 8 ⟨[(3, .one (.c (.own 0 (.int .u8) w197)))], [(0, some ⟨5, 0⟩)], [], 1⟩ _
    have h := Option.some.inj h
    subst h
    exact At.fin hm ht ⟨[], [], [], [2], []⟩ [] (by kernel_rfl) trivial
/-! brougham/broughamlaw01.NumHex -/
def f4_broughamlaw01_NumHex_in (b : List Int) (s : ByteArray) : Inn := ⟨[.c (.d (.sl (.int .u8) b)), .c (.d (.str s))], [], [], 0⟩
def f4_broughamlaw01_NumHex_out (r : Bool) : Out := ⟨.one (.c (.d (.bool r))), [], [], 0⟩
def f4_broughamlaw01_NumHex (n : Nat) (b : List Int) (s : ByteArray) : Option (Bool) :=
  if (decide ((((b.length : Nat) : Int) : Int) > 4096)) = true then
    some true
  else
    if (decide ((((s.size : Nat) : Int) : Int) > 4096)) = true then
      some true
    else
      (f10_num_Unhex n s).bind fun r62_0 =>
      (f11_broughamref01_Unhex n s).bind fun r117_0 =>
      (f12_num_Hex b).bind fun r179_0 =>
      (f10_num_Unhex n r179_0).bind fun r179_1 =>
      (f12_num_Hex b).bind fun r180_0 =>
      (f13_broughamref01_Hex n b).bind fun r180_1 =>
      if (r180_0.toList == r180_1.toList) = true then
        if ((strOfNums r62_0.1).toList == (strOfNums r117_0.1).toList) = true then
          if ((r62_0.2 : Int) == r117_0.2) = true then
            if ((strOfNums r179_1.1).toList == (strOfNums b).toList) = true then
              if ((r179_1.2 : Int) == 0) = true then
                if ((r62_0.2 : Int) != 0) = true then
                  (f9_broughamlaw01_alive n).bind fun r180_2 =>
                  some r180_2
                else
                  (f12_num_Hex r62_0.1).bind fun r180_2 =>
                  if (r180_2.toList == s.toList) = true then
                    (f9_broughamlaw01_alive n).bind fun r180_3 =>
                    some r180_3
                  else
                    some false
              else
                some false
            else
              some false
          else
            some false
        else
          some false
      else
        some false
theorem f4_broughamlaw01_NumHex_ok (n : Nat) (b : List Int) (s : ByteArray) (r : Bool) (h : f4_broughamlaw01_NumHex n b s = some r) : FnOK Go.Proofs.Try.prog 4 (f4_broughamlaw01_NumHex_in b s) (f4_broughamlaw01_NumHex_out r) := by
  unfold f4_broughamlaw01_NumHex at h
  refine At.fn (r := 0) Go.Proofs.Try.func4 rfl (by kernel_rfl) rfl rfl (by kernel_rfl) ?_
  show At Go.Proofs.Try.prog Go.Proofs.Try.f4 0 0 ⟨[(0, .one (.c (.d (.sl (.int .u8) b)))), (1, .one (.c (.d (.str s))))], [], [], 0⟩ _
  refine At.step hm ht ⟨[], [], [], [0, 1], []⟩ 1 ⟨[(0, .one (.c (.d (.sl (.int .u8) b)))), (1, .one (.c (.d (.str s))))], [], [], 0⟩ [] (by kernel_rfl) trivial ?_
  rcases iteS h with ⟨b59_3, h⟩ | ⟨b59_3, h⟩
  · refine At.step hm ht ⟨[(3, .b true)], [true], [], [], []⟩ 2 ⟨[], [], [], 0⟩ [(decide ((((b.length : Nat) : Int) : Int) > 4096)) = true, true = true] (by kernel_rfl) ⟨b59_3, rfl, trivial⟩ ?_
    have h := Option.some.inj h
    subst h
    exact At.fin hm ht ⟨[], [], [], [4], []⟩ [] (by kernel_rfl) trivial
  · rcases iteS h with ⟨b59_e0, h⟩ | ⟨b59_e0, h⟩
    · refine At.step hm ht ⟨[(3, .b false)], [true], [], [], []⟩ 2 ⟨[], [], [], 0⟩ [(decide ((((b.length : Nat) : Int) : Int) > 4096)) = false, (decide ((((s.size : Nat) : Int) : Int) > 4096)) = true] (by kernel_rfl) ⟨b59_3, b59_e0, trivial⟩ ?_
      have h := Option.some.inj h
      subst h
      exact At.fin hm ht ⟨[], [], [], [4], []⟩ [] (by kernel_rfl) trivial
    · refine At.step hm ht ⟨[(3, .b false)], [false], [], [0, 1], []⟩ 3 ⟨[(0, .one (.c (.d (.sl (.int .u8) b)))), (1, .one (.c (.d (.str s))))], [], [], 0⟩ [(decide ((((b.length : Nat) : Int) : Int) > 4096)) = false, (decide ((((s.size : Nat) : Int) : Int) > 4096)) = false] (by kernel_rfl) ⟨b59_3, b59_e0, trivial⟩ ?_
      obtain ⟨r62_0, cr62_0, h⟩ := bindS h
      refine At.step hm ht ⟨[(1, .call [] [] (f10_num_Unhex_out r62_0))], [], [], [0, 1, 5, 6], [1]⟩ 4 ⟨[(0, .one (.c (.d (.sl (.int .u8) b)))), (1, .one (.c (.d (.str s)))), (5, .one (.c (.own 0 (.int .u8) r62_0.1))), (6, .one (.c (.d (.int .i64 r62_0.2))))], [(0, some ⟨5, 0⟩)], [], 1⟩ [FnOK Go.Proofs.Try.prog 10 (f10_num_Unhex_in s) (f10_num_Unhex_out r62_0)] (by kernel_rfl) ⟨(f10_num_Unhex_ok n s r62_0 cr62_0), trivial⟩ ?_
      obtain ⟨r117_0, cr117_0, h⟩ := bindS h
      refine At.step hm ht ⟨[(1, .call [] [] (f11_broughamref01_Unhex_out r117_0))], [], [], [0, 1, 5, 6, 7, 8], [0, 2]⟩ 5 ⟨[(0, .one (.c (.d (.sl (.int .u8) b)))), (1, .one (.c (.d (.str s)))), (5, .one (.c (.own 0 (.int .u8) r62_0.1))), (6, .one (.c (.d (.int .i64 r62_0.2)))), (7, .one (.c (.own 1 (.int .u8) r117_0.1))), (8, .one (.c (.d (.int .i64 r117_0.2))))], [(0, some ⟨5, 0⟩), (1, some ⟨5, 0⟩)], [], 2⟩ [FnOK Go.Proofs.Try.prog 11 (f11_broughamref01_Unhex_in s) (f11_broughamref01_Unhex_out r117_0)] (by kernel_rfl) ⟨(f11_broughamref01_Unhex_ok n s r117_0 cr117_0), trivial⟩ ?_
      obtain ⟨r179_0, cr179_0, h⟩ := bindS h
      obtain ⟨r179_1, cr179_1, h⟩ := bindS h
      refine At.step hm ht ⟨[(1, .call [] [] (f12_num_Hex_out r179_0)), (2, .call [] [] (f10_num_Unhex_out r179_1))], [], [], [0, 1, 5, 6, 7, 8, 9, 10], [0, 1, 3]⟩ 6 ⟨[(0, .one (.c (.d (.sl (.int .u8) b)))), (1, .one (.c (.d (.str s)))), (5, .one (.c (.own 0 (.int .u8) r62_0.1))), (6, .one (.c (.d (.int .i64 r62_0.2)))), (7, .one (.c (.own 1 (.int .u8) r117_0.1))), (8, .one (.c (.d (.int .i64 r117_0.2)))), (9, .one (.c (.own 2 (.int .u8) r179_1.1))), (10, .one (.c (.d (.int .i64 r179_1.2))))], [(0, some ⟨5, 0⟩), (1, some ⟨5, 0⟩), (2, some ⟨5, 0⟩)], [], 3⟩ [FnOK Go.Proofs.Try.prog 12 (f12_num_Hex_in b) (f12_num_Hex_out r179_0), FnOK Go.Proofs.Try.prog 10 (f10_num_Unhex_in r179_0) (f10_num_Unhex_out r179_1)] (by kernel_rfl) ⟨(f12_num_Hex_ok b r179_0 cr179_0), (f10_num_Unhex_ok n r179_0 r179_1 cr179_1), trivial⟩ ?_
      obtain ⟨r180_0, cr180_0, h⟩ := bindS h
      obtain ⟨r180_1, cr180_1, h⟩ := bindS h
      rcases iteS h with ⟨b180_5, h⟩ | ⟨b180_5, h⟩
      · rcases iteS h with ⟨b180_12, h⟩ | ⟨b180_12, h⟩
        · rcases iteS h with ⟨b180_17, h⟩ | ⟨b180_17, h⟩
          · rcases iteS h with ⟨b180_24, h⟩ | ⟨b180_24, h⟩
            · rcases iteS h with ⟨b180_28, h⟩ | ⟨b180_28, h⟩
              · rcases iteS h with ⟨b180_31, h⟩ | ⟨b180_31, h⟩
                · obtain ⟨r180_2, cr180_2, h⟩ := bindS h
                  have h := Option.some.inj h
                  subst h
                  exact At.fin hm ht ⟨[(1, .call [] [] (f12_num_Hex_out r180_0)), (3, .call [] [] (f13_broughamref01_Hex_out r180_1)), (5, .b true), (12, .b true), (17, .b true), (24, .b true), (28, .b true), (31, .b true), (39, .call [] [] (f9_broughamlaw01_alive_out r180_2))], [], [], [4], []⟩ [FnOK Go.Proofs.Try.prog 12 (f12_num_Hex_in b) (f12_num_Hex_out r180_0), FnOK Go.Proofs.Try.prog 13 (f13_broughamref01_Hex_in b) (f13_broughamref01_Hex_out r180_1), (r180_0.toList == r180_1.toList) = true, ((strOfNums r62_0.1).toList == (strOfNums r117_0.1).toList) = true, ((r62_0.2 : Int) == r117_0.2) = true, ((strOfNums r179_1.1).toList == (strOfNums b).toList) = true, ((r179_1.2 : Int) == 0) = true, ((r62_0.2 : Int) != 0) = true, FnOK Go.Proofs.Try.prog 9 (f9_broughamlaw01_alive_in) (f9_broughamlaw01_alive_out r180_2)] (by kernel_rfl) ⟨(f12_num_Hex_ok b r180_0 cr180_0), (f13_broughamref01_Hex_ok n b r180_1 cr180_1), b180_5, b180_12, b180_17, b180_24, b180_28, b180_31, (f9_broughamlaw01_alive_ok n r180_2 cr180_2), trivial⟩
                · obtain ⟨r180_2, cr180_2, h⟩ := bindS h
                  rcases iteS h with ⟨b180_38, h⟩ | ⟨b180_38, h⟩
                  · obtain ⟨r180_3, cr180_3, h⟩ := bindS h
                    have h := Option.some.inj h
                    subst h
                    exact At.fin hm ht ⟨[(1, .call [] [] (f12_num_Hex_out r180_0)), (3, .call [] [] (f13_broughamref01_Hex_out r180_1)), (5, .b true), (12, .b true), (17, .b true), (24, .b true), (28, .b true), (31, .b false), (33, .call [] [] (f12_num_Hex_out r180_2)), (38, .b true), (39, .call [] [] (f9_broughamlaw01_alive_out r180_3))], [], [], [4], []⟩ [FnOK Go.Proofs.Try.prog 12 (f12_num_Hex_in b) (f12_num_Hex_out r180_0), FnOK Go.Proofs.Try.prog 13 (f13_broughamref01_Hex_in b) (f13_broughamref01_Hex_out r180_1), (r180_0.toList == r180_1.toList) = true, ((strOfNums r62_0.1).toList == (strOfNums r117_0.1).toList) = true, ((r62_0.2 : Int) == r117_0.2) = true, ((strOfNums r179_1.1).toList == (strOfNums b).toList) = true, ((r179_1.2 : Int) == 0) = true, ((r62_0.2 : Int) != 0) = false, FnOK Go.Proofs.Try.prog 12 (f12_num_Hex_in r62_0.1) (f12_num_Hex_out r180_2), (r180_2.toList == s.toList) = true, FnOK Go.Proofs.Try.prog 9 (f9_broughamlaw01_alive_in) (f9_broughamlaw01_alive_out r180_3)] (by kernel_rfl) ⟨(f12_num_Hex_ok b r180_0 cr180_0), (f13_broughamref01_Hex_ok n b r180_1 cr180_1), b180_5, b180_12, b180_17, b180_24, b180_28, b180_31, (f12_num_Hex_ok r62_0.1 r180_2 cr180_2), b180_38, (f9_broughamlaw01_alive_ok n r180_3 cr180_3), trivial⟩
                  · have h := Option.some.inj h
                    subst h
                    exact At.fin hm ht ⟨[(1, .call [] [] (f12_num_Hex_out r180_0)), (3, .call [] [] (f13_broughamref01_Hex_out r180_1)), (5, .b true), (12, .b true), (17, .b true), (24, .b true), (28, .b true), (31, .b false), (33, .call [] [] (f12_num_Hex_out r180_2)), (38, .b false)], [], [], [4], []⟩ [FnOK Go.Proofs.Try.prog 12 (f12_num_Hex_in b) (f12_num_Hex_out r180_0), FnOK Go.Proofs.Try.prog 13 (f13_broughamref01_Hex_in b) (f13_broughamref01_Hex_out r180_1), (r180_0.toList == r180_1.toList) = true, ((strOfNums r62_0.1).toList == (strOfNums r117_0.1).toList) = true, ((r62_0.2 : Int) == r117_0.2) = true, ((strOfNums r179_1.1).toList == (strOfNums b).toList) = true, ((r179_1.2 : Int) == 0) = true, ((r62_0.2 : Int) != 0) = false, FnOK Go.Proofs.Try.prog 12 (f12_num_Hex_in r62_0.1) (f12_num_Hex_out r180_2), (r180_2.toList == s.toList) = false] (by kernel_rfl) ⟨(f12_num_Hex_ok b r180_0 cr180_0), (f13_broughamref01_Hex_ok n b r180_1 cr180_1), b180_5, b180_12, b180_17, b180_24, b180_28, b180_31, (f12_num_Hex_ok r62_0.1 r180_2 cr180_2), b180_38, trivial⟩
              · have h := Option.some.inj h
                subst h
                exact At.fin hm ht ⟨[(1, .call [] [] (f12_num_Hex_out r180_0)), (3, .call [] [] (f13_broughamref01_Hex_out r180_1)), (5, .b true), (12, .b true), (17, .b true), (24, .b true), (28, .b false)], [], [], [4], []⟩ [FnOK Go.Proofs.Try.prog 12 (f12_num_Hex_in b) (f12_num_Hex_out r180_0), FnOK Go.Proofs.Try.prog 13 (f13_broughamref01_Hex_in b) (f13_broughamref01_Hex_out r180_1), (r180_0.toList == r180_1.toList) = true, ((strOfNums r62_0.1).toList == (strOfNums r117_0.1).toList) = true, ((r62_0.2 : Int) == r117_0.2) = true, ((strOfNums r179_1.1).toList == (strOfNums b).toList) = true, ((r179_1.2 : Int) == 0) = false] (by kernel_rfl) ⟨(f12_num_Hex_ok b r180_0 cr180_0), (f13_broughamref01_Hex_ok n b r180_1 cr180_1), b180_5, b180_12, b180_17, b180_24, b180_28, trivial⟩
            · have h := Option.some.inj h
              subst h
              exact At.fin hm ht ⟨[(1, .call [] [] (f12_num_Hex_out r180_0)), (3, .call [] [] (f13_broughamref01_Hex_out r180_1)), (5, .b true), (12, .b true), (17, .b true), (24, .b false)], [], [], [4], []⟩ [FnOK Go.Proofs.Try.prog 12 (f12_num_Hex_in b) (f12_num_Hex_out r180_0), FnOK Go.Proofs.Try.prog 13 (f13_broughamref01_Hex_in b) (f13_broughamref01_Hex_out r180_1), (r180_0.toList == r180_1.toList) = true, ((strOfNums r62_0.1).toList == (strOfNums r117_0.1).toList) = true, ((r62_0.2 : Int) == r117_0.2) = true, ((strOfNums r179_1.1).toList == (strOfNums b).toList) = false] (by kernel_rfl) ⟨(f12_num_Hex_ok b r180_0 cr180_0), (f13_broughamref01_Hex_ok n b r180_1 cr180_1), b180_5, b180_12, b180_17, b180_24, trivial⟩
          · have h := Option.some.inj h
            subst h
            exact At.fin hm ht ⟨[(1, .call [] [] (f12_num_Hex_out r180_0)), (3, .call [] [] (f13_broughamref01_Hex_out r180_1)), (5, .b true), (12, .b true), (17, .b false)], [], [], [4], []⟩ [FnOK Go.Proofs.Try.prog 12 (f12_num_Hex_in b) (f12_num_Hex_out r180_0), FnOK Go.Proofs.Try.prog 13 (f13_broughamref01_Hex_in b) (f13_broughamref01_Hex_out r180_1), (r180_0.toList == r180_1.toList) = true, ((strOfNums r62_0.1).toList == (strOfNums r117_0.1).toList) = true, ((r62_0.2 : Int) == r117_0.2) = false] (by kernel_rfl) ⟨(f12_num_Hex_ok b r180_0 cr180_0), (f13_broughamref01_Hex_ok n b r180_1 cr180_1), b180_5, b180_12, b180_17, trivial⟩
        · have h := Option.some.inj h
          subst h
          exact At.fin hm ht ⟨[(1, .call [] [] (f12_num_Hex_out r180_0)), (3, .call [] [] (f13_broughamref01_Hex_out r180_1)), (5, .b true), (12, .b false)], [], [], [4], []⟩ [FnOK Go.Proofs.Try.prog 12 (f12_num_Hex_in b) (f12_num_Hex_out r180_0), FnOK Go.Proofs.Try.prog 13 (f13_broughamref01_Hex_in b) (f13_broughamref01_Hex_out r180_1), (r180_0.toList == r180_1.toList) = true, ((strOfNums r62_0.1).toList == (strOfNums r117_0.1).toList) = false] (by kernel_rfl) ⟨(f12_num_Hex_ok b r180_0 cr180_0), (f13_broughamref01_Hex_ok n b r180_1 cr180_1), b180_5, b180_12, trivial⟩
      · have h := Option.some.inj h
        subst h
        exact At.fin hm ht ⟨[(1, .call [] [] (f12_num_Hex_out r180_0)), (3, .call [] [] (f13_broughamref01_Hex_out r180_1)), (5, .b false)], [], [], [4], []⟩ [FnOK Go.Proofs.Try.prog 12 (f12_num_Hex_in b) (f12_num_Hex_out r180_0), FnOK Go.Proofs.Try.prog 13 (f13_broughamref01_Hex_in b) (f13_broughamref01_Hex_out r180_1), (r180_0.toList == r180_1.toList) = false] (by kernel_rfl) ⟨(f12_num_Hex_ok b r180_0 cr180_0), (f13_broughamref01_Hex_ok n b r180_1 cr180_1), b180_5, trivial⟩
end Go.Proofs.YtakamchmiakicaaF01
