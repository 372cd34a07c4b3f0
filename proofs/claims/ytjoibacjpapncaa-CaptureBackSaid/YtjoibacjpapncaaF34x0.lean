/- What the functions compute, and that they do: printed by a program of this session (zgen.py), proved by Zed. -/
import Derived.Test.YtjoibacjpapncaaProg
import Derived.Test.YtjoibacjpapncaaZedY
namespace Go.Proofs.YtjoibacjpapncaaF34
open Go Zed
set_option maxRecDepth 100000
set_option linter.unusedVariables false
def tab : Tab := [(3, ⟨.int .i64, 1, 8, [.int .i64 0], some (.int .i64), none⟩), (5, ⟨.int .u8, 1, 1, [.int .u8 0], some (.int .u8), none⟩), (9, ⟨.str, 1, 16, [.str (⟨#[]⟩ : ByteArray)], some .str, none⟩), (22, ⟨.int .u64, 1, 8, [.int .u64 0], some (.int .u64), none⟩), (25, ⟨.int .u16, 1, 2, [.int .u16 0], some (.int .u16), none⟩), (26, ⟨.int .u32, 1, 4, [.int .u32 0], some (.int .u32), none⟩), (37, ⟨.slice 82, 1, 24, [.sl .unit []], some (.slice (.pair (.int .i64) (.pair (.int .i64) (.pair (.int .i64) (.slice (.int .u8)))))), none⟩), (38, ⟨.slice 5, 1, 24, [.sl .unit []], some (.slice (.int .u8)), none⟩), (43, ⟨.slice 84, 1, 24, [.sl .unit []], some (.slice (.pair (.int .i64) (.pair (.int .i64) (.pair (.int .i64) .str)))), none⟩), (79, ⟨.struct [(0, 3), (1, 3)], 2, 16, [.int .i64 0, .int .i64 0], some (.pair (.int .i64) (.int .i64)), some [(0, 3), (1, 3)]⟩), (82, ⟨.struct [(0, 3), (1, 3), (2, 3), (3, 38)], 4, 48, [.int .i64 0, .int .i64 0, .int .i64 0, .sl .unit []], some (.pair (.int .i64) (.pair (.int .i64) (.pair (.int .i64) (.slice (.int .u8))))), some [(0, 3), (1, 3), (2, 3), (3, 38)]⟩), (84, ⟨.struct [(0, 3), (1, 3), (2, 3), (3, 9)], 4, 40, [.int .i64 0, .int .i64 0, .int .i64 0, .str (⟨#[]⟩ : ByteArray)], some (.pair (.int .i64) (.pair (.int .i64) (.pair (.int .i64) .str))), some [(0, 3), (1, 3), (2, 3), (3, 9)]⟩), (110, ⟨.slice 3, 1, 24, [.sl .unit []], some (.slice (.int .i64)), none⟩), (139, ⟨.struct [(0, 3), (1, 22)], 2, 16, [.int .i64 0, .int .u64 0], some (.pair (.int .i64) (.int .u64)), some [(0, 3), (1, 22)]⟩), (144, ⟨.slice 22, 1, 24, [.sl .unit []], some (.slice (.int .u64)), none⟩), (221, ⟨.slice 139, 1, 24, [.sl .unit []], some (.slice (.pair (.int .i64) (.int .u64))), none⟩)]
theorem ht : TabOk Go.Proofs.Try.prog tab := tabOk_of (ts := [3, 5, 9, 22, 25, 26, 37, 38, 43, 79, 82, 84, 110, 139, 144, 221]) (by kernel_rfl)
theorem hm : Go.Proofs.Try.prog.follows .mixedOrders = true := by kernel_rfl
/-! brougham/broughamlaw34.great -/
def f19_broughamlaw34_great_in (l : List (Int × Int × Int × List Int)) : Inn := ⟨[.c (.d (.sl (.pair (.int .i64) (.pair (.int .i64) (.pair (.int .i64) (.slice (.int .u8))))) l))], [], [], 0⟩
def f19_broughamlaw34_great_out (r : Bool) : Out := ⟨.one (.c (.d (.bool r))), [], [], 0⟩
def f19_broughamlaw34_great_L3 : Nat → (List (Int × Int × Int × List Int)) → Int → Int → Option ((Bool) ⊕ (List (Int × Int × Int × List Int)))
  | 0, _, _, _ => none
  | n + 1, l, n_, i =>
    if (decide ((i : Int) < ((l.length : Nat) : Int))) = true then
      if (decide ((i : Int) < 1100)) = true then
        if (0 : Int) ≤ i ∧ i < (((l).length : Nat) : Int) then
        if (decide (((IntKind.wrap .i64 (n_ + ((((((l.getD i.toNat (0, (0, (0, [])))).2).2).2).length : Nat) : Int))) : Int) > 20000)) = true then
          some (.inl true)
        else
          f19_broughamlaw34_great_L3 n l (IntKind.wrap .i64 (n_ + ((((((l.getD i.toNat (0, (0, (0, [])))).2).2).2).length : Nat) : Int))) (IntKind.wrap .i64 (i + 1))
        else none
      else
        some (.inr l)
    else
      some (.inr l)
def f19_broughamlaw34_great_L3_k (w : (Bool) ⊕ (List (Int × Int × Int × List Int))) (o : Out) : Prop := match w with
  | .inl e => o = f19_broughamlaw34_great_out e
  | .inr e => At Go.Proofs.Try.prog Go.Proofs.Try.f19 0 8 ⟨[(0, .one (.c (.d (.sl (.pair (.int .i64) (.pair (.int .i64) (.pair (.int .i64) (.slice (.int .u8))))) e))))], [], [], 0⟩ o
theorem f19_broughamlaw34_great_L3_ok (n : Nat) : ∀ (l : List (Int × Int × Int × List Int)) (n_ : Int) (i : Int) (w : (Bool) ⊕ (List (Int × Int × Int × List Int))) (h : f19_broughamlaw34_great_L3 n l n_ i = some w) (o : Out) (hk : f19_broughamlaw34_great_L3_k w o), At Go.Proofs.Try.prog Go.Proofs.Try.f19 0 3 ⟨[(0, .one (.c (.d (.sl (.pair (.int .i64) (.pair (.int .i64) (.pair (.int .i64) (.slice (.int .u8))))) l)))), (3, .one (.c (.d (.int .i64 n_)))), (4, .one (.c (.d (.int .i64 i))))], [], [], 0⟩ o := by
  induction n with
  | zero => intro l n_ i w h; rw [f19_broughamlaw34_great_L3] at h; cases h
  | succ n ih =>
    intro l n_ i w h o hk
    rw [f19_broughamlaw34_great_L3] at h
    rcases iteS h with ⟨b6_4, h⟩ | ⟨b6_4, h⟩
    · rcases iteS h with ⟨b6_e0, h⟩ | ⟨b6_e0, h⟩
      · refine At.step hm ht ⟨[(4, .b true)], [true], [], [0, 3, 4], []⟩ 5 ⟨[(0, .one (.c (.d (.sl (.pair (.int .i64) (.pair (.int .i64) (.pair (.int .i64) (.slice (.int .u8))))) l)))), (3, .one (.c (.d (.int .i64 n_)))), (4, .one (.c (.d (.int .i64 i))))], [], [], 0⟩ [(decide ((i : Int) < ((l.length : Nat) : Int))) = true, (decide ((i : Int) < 1100)) = true] (by kernel_rfl) ⟨b6_4, b6_e0, trivial⟩ ?_
        obtain ⟨g7_0, h⟩ := ifS h
        refine At.step hm ht ⟨[], [], [], [0, 3, 4], []⟩ 6 ⟨[(0, .one (.c (.d (.sl (.pair (.int .i64) (.pair (.int .i64) (.pair (.int .i64) (.slice (.int .u8))))) l)))), (3, .one (.c (.d (.int .i64 (IntKind.wrap .i64 (n_ + ((((((l.getD i.toNat (0, (0, (0, [])))).2).2).2).length : Nat) : Int))))))), (4, .one (.c (.d (.int .i64 i))))], [], [], 0⟩ [(0 : Int) ≤ i ∧ i < (((l).length : Nat) : Int)] (by kernel_rfl) ⟨g7_0, trivial⟩ ?_
        rcases iteS h with ⟨b8_e0, h⟩ | ⟨b8_e0, h⟩
        · refine At.step hm ht ⟨[], [true], [], [], []⟩ 7 ⟨[], [], [], 0⟩ [(decide (((IntKind.wrap .i64 (n_ + ((((((l.getD i.toNat (0, (0, (0, [])))).2).2).2).length : Nat) : Int))) : Int) > 20000)) = true] (by kernel_rfl) ⟨b8_e0, trivial⟩ ?_
          have h := Option.some.inj h
          subst h
          have hk : o = f19_broughamlaw34_great_out true := hk
          subst hk
          exact At.fin hm ht ⟨[], [], [], [2], []⟩ [] (by kernel_rfl) trivial
        · refine At.step hm ht ⟨[], [false], [], [0, 3, 4], []⟩ 4 ⟨[(0, .one (.c (.d (.sl (.pair (.int .i64) (.pair (.int .i64) (.pair (.int .i64) (.slice (.int .u8))))) l)))), (3, .one (.c (.d (.int .i64 (IntKind.wrap .i64 (n_ + ((((((l.getD i.toNat (0, (0, (0, [])))).2).2).2).length : Nat) : Int))))))), (4, .one (.c (.d (.int .i64 i))))], [], [], 0⟩ [(decide (((IntKind.wrap .i64 (n_ + ((((((l.getD i.toNat (0, (0, (0, [])))).2).2).2).length : Nat) : Int))) : Int) > 20000)) = false] (by kernel_rfl) ⟨b8_e0, trivial⟩ ?_
          refine At.step hm ht ⟨[], [], [], [0, 3, 4], []⟩ 3 ⟨[(0, .one (.c (.d (.sl (.pair (.int .i64) (.pair (.int .i64) (.pair (.int .i64) (.slice (.int .u8))))) l)))), (3, .one (.c (.d (.int .i64 (IntKind.wrap .i64 (n_ + ((((((l.getD i.toNat (0, (0, (0, [])))).2).2).2).length : Nat) : Int))))))), (4, .one (.c (.d (.int .i64 (IntKind.wrap .i64 (i + 1))))))], [], [], 0⟩ [] (by kernel_rfl) trivial ?_
          exact ih l (IntKind.wrap .i64 (n_ + ((((((l.getD i.toNat (0, (0, (0, [])))).2).2).2).length : Nat) : Int))) (IntKind.wrap .i64 (i + 1)) w h o hk
      · refine At.step hm ht ⟨[(4, .b true)], [false], [], [0], []⟩ 8 ⟨[(0, .one (.c (.d (.sl (.pair (.int .i64) (.pair (.int .i64) (.pair (.int .i64) (.slice (.int .u8))))) l))))], [], [], 0⟩ [(decide ((i : Int) < ((l.length : Nat) : Int))) = true, (decide ((i : Int) < 1100)) = false] (by kernel_rfl) ⟨b6_4, b6_e0, trivial⟩ ?_
        have h := Option.some.inj h
        subst h
        exact hk
    · refine At.step hm ht ⟨[(4, .b false)], [false], [], [0], []⟩ 8 ⟨[(0, .one (.c (.d (.sl (.pair (.int .i64) (.pair (.int .i64) (.pair (.int .i64) (.slice (.int .u8))))) l))))], [], [], 0⟩ [(decide ((i : Int) < ((l.length : Nat) : Int))) = false, false = false] (by kernel_rfl) ⟨b6_4, rfl, trivial⟩ ?_
      have h := Option.some.inj h
      subst h
      exact hk
def f19_broughamlaw34_great (n : Nat) (l : List (Int × Int × Int × List Int)) : Option (Bool) :=
  (f19_broughamlaw34_great_L3 n l 0 0).bind fun w11 =>
  match w11 with
  | .inl e12 =>
    some e12
  | .inr e13 =>
    some (decide ((((e13.length : Nat) : Int) : Int) > 1100))
theorem f19_broughamlaw34_great_ok (n : Nat) (l : List (Int × Int × Int × List Int)) (r : Bool) (h : f19_broughamlaw34_great n l = some r) : FnOK Go.Proofs.Try.prog 19 (f19_broughamlaw34_great_in l) (f19_broughamlaw34_great_out r) := by
  unfold f19_broughamlaw34_great at h
  refine At.fn (r := 0) Go.Proofs.Try.func19 rfl (by kernel_rfl) rfl rfl (by kernel_rfl) ?_
  show At Go.Proofs.Try.prog Go.Proofs.Try.f19 0 0 ⟨[(0, .one (.c (.d (.sl (.pair (.int .i64) (.pair (.int .i64) (.pair (.int .i64) (.slice (.int .u8))))) l))))], [], [], 0⟩ _
  refine At.step hm ht ⟨[], [], [], [0], []⟩ 1 ⟨[(0, .one (.c (.d (.sl (.pair (.int .i64) (.pair (.int .i64) (.pair (.int .i64) (.slice (.int .u8))))) l))))], [], [], 0⟩ [] (by kernel_rfl) trivial ?_
  refine At.step hm ht ⟨[], [], [], [0, 3], []⟩ 2 ⟨[(0, .one (.c (.d (.sl (.pair (.int .i64) (.pair (.int .i64) (.pair (.int .i64) (.slice (.int .u8))))) l)))), (3, .one (.c (.d (.int .i64 0))))], [], [], 0⟩ [] (by kernel_rfl) trivial ?_
  refine At.step hm ht ⟨[], [], [], [0, 3, 4], []⟩ 3 ⟨[(0, .one (.c (.d (.sl (.pair (.int .i64) (.pair (.int .i64) (.pair (.int .i64) (.slice (.int .u8))))) l)))), (3, .one (.c (.d (.int .i64 0)))), (4, .one (.c (.d (.int .i64 0))))], [], [], 0⟩ [] (by kernel_rfl) trivial ?_
  obtain ⟨w11, cw11, h⟩ := bindS h
  refine f19_broughamlaw34_great_L3_ok n l 0 0 w11 cw11 _ ?_
  rcases w11 with e12 | e13
  · have h := Option.some.inj h
    subst h
    rfl
  · show At Go.Proofs.Try.prog Go.Proofs.Try.f19 0 8 ⟨[(0, .one (.c (.d (.sl (.pair (.int .i64) (.pair (.int .i64) (.pair (.int .i64) (.slice (.int .u8))))) e13))))], [], [], 0⟩ _
    have h := Option.some.inj h
    subst h
    exact At.fin hm ht ⟨[], [], [], [2], []⟩ [] (by kernel_rfl) trivial
/-! brougham/capture.Right -/
def f23_capture_Right_in (l : List (Int × Int × Int × List Int)) : Inn := ⟨[.c (.d (.sl (.pair (.int .i64) (.pair (.int .i64) (.pair (.int .i64) (.slice (.int .u8))))) l))], [], [], 0⟩
def f23_capture_Right_out (r : Bool) : Out := ⟨.one (.c (.d (.bool r))), [], [], 0⟩
def f23_capture_Right_L5 : Nat → Int → (List (Int × Int × Int × List Int)) → Int → Int → Option ((Bool) ⊕ (Unit))
  | 0, _, _, _, _ => none
  | n + 1, last, t9, t10, t11 =>
    if (decide ((t11 : Int) < t10)) = true then
      if (0 : Int) ≤ t11 ∧ t11 < (((t9).length : Nat) : Int) then
      if (decide ((((t9.getD t11.toNat (0, (0, (0, [])))).1) : Int) < last)) = true then
        some (.inl false)
      else
        if (decide ((((t9.getD t11.toNat (0, (0, (0, [])))).1) : Int) ≥ 2147483648)) = true then
          some (.inl false)
        else
          if (decide (((((t9.getD t11.toNat (0, (0, (0, [])))).2).1) : Int) < 0)) = true then
            some (.inl false)
          else
            if (decide (((((t9.getD t11.toNat (0, (0, (0, [])))).2).1) : Int) > 1)) = true then
              some (.inl false)
            else
              if (decide ((((((t9.getD t11.toNat (0, (0, (0, [])))).2).2).1) : Int) < 0)) = true then
                some (.inl false)
              else
                if (decide ((((((t9.getD t11.toNat (0, (0, (0, [])))).2).2).1) : Int) ≥ 4)) = true then
                  some (.inl false)
                else
                  if (decide ((((((((t9.getD t11.toNat (0, (0, (0, [])))).2).2).2).length : Nat) : Int) : Int) > 2048)) = true then
                    some (.inl false)
                  else
                    f23_capture_Right_L5 n ((t9.getD t11.toNat (0, (0, (0, [])))).1) t9 t10 (IntKind.wrap .i64 (t11 + 1))
      else none
    else
      some (.inr ())
def f23_capture_Right_L5_k (w : (Bool) ⊕ (Unit)) (o : Out) : Prop := match w with
  | .inl e => o = f23_capture_Right_out e
  | .inr e => At Go.Proofs.Try.prog Go.Proofs.Try.f23 0 11 ⟨[], [], [], 0⟩ o
theorem f23_capture_Right_L5_ok (n : Nat) : ∀ (last : Int) (t9 : List (Int × Int × Int × List Int)) (t10 : Int) (t11 : Int) (w : (Bool) ⊕ (Unit)) (h : f23_capture_Right_L5 n last t9 t10 t11 = some w) (o : Out) (hk : f23_capture_Right_L5_k w o), At Go.Proofs.Try.prog Go.Proofs.Try.f23 0 5 ⟨[(3, .one (.c (.d (.int .i64 last)))), (9, .one (.c (.d (.sl (.pair (.int .i64) (.pair (.int .i64) (.pair (.int .i64) (.slice (.int .u8))))) t9)))), (10, .one (.c (.d (.int .i64 t10)))), (11, .one (.c (.d (.int .i64 t11))))], [], [], 0⟩ o := by
  induction n with
  | zero => intro last t9 t10 t11 w h; rw [f23_capture_Right_L5] at h; cases h
  | succ n ih =>
    intro last t9 t10 t11 w h o hk
    rw [f23_capture_Right_L5] at h
    rcases iteS h with ⟨b25_e0, h⟩ | ⟨b25_e0, h⟩
    · refine At.step hm ht ⟨[], [true], [], [3, 9, 10, 11], []⟩ 6 ⟨[(3, .one (.c (.d (.int .i64 last)))), (9, .one (.c (.d (.sl (.pair (.int .i64) (.pair (.int .i64) (.pair (.int .i64) (.slice (.int .u8))))) t9)))), (10, .one (.c (.d (.int .i64 t10)))), (11, .one (.c (.d (.int .i64 t11))))], [], [], 0⟩ [(decide ((t11 : Int) < t10)) = true] (by kernel_rfl) ⟨b25_e0, trivial⟩ ?_
      obtain ⟨g26_0, h⟩ := ifS h
      refine At.step hm ht ⟨[], [], [], [3, 5, 9, 10, 11], [2]⟩ 7 ⟨[(3, .one (.c (.d (.int .i64 last)))), (5, .one (.c (.ptr 0 0))), (9, .one (.c (.d (.sl (.pair (.int .i64) (.pair (.int .i64) (.pair (.int .i64) (.slice (.int .u8))))) t9)))), (10, .one (.c (.d (.int .i64 t10)))), (11, .one (.c (.d (.int .i64 t11))))], [], [(0, [.d (.int .i64 ((t9.getD t11.toNat (0, (0, (0, [])))).1)), .d (.int .i64 (((t9.getD t11.toNat (0, (0, (0, [])))).2).1)), .d (.int .i64 ((((t9.getD t11.toNat (0, (0, (0, [])))).2).2).1)), .d (.sl (.int .u8) ((((t9.getD t11.toNat (0, (0, (0, [])))).2).2).2))])], 1⟩ [(0 : Int) ≤ t11 ∧ t11 < (((t9).length : Nat) : Int), 0 + 4 ≤ 4] (by kernel_rfl) ⟨g26_0, (by decide), trivial⟩ ?_
      rcases iteS h with ⟨b27_4, h⟩ | ⟨b27_4, h⟩
      · refine At.step hm ht ⟨[(4, .b true)], [true], [], [], []⟩ 8 ⟨[], [], [], 0⟩ [(decide ((((t9.getD t11.toNat (0, (0, (0, [])))).1) : Int) < last)) = true, true = true] (by kernel_rfl) ⟨b27_4, rfl, trivial⟩ ?_
        have h := Option.some.inj h
        subst h
        have hk : o = f23_capture_Right_out false := hk
        subst hk
        exact At.fin hm ht ⟨[], [], [], [2], []⟩ [] (by kernel_rfl) trivial
      · rcases iteS h with ⟨b27_9, h⟩ | ⟨b27_9, h⟩
        · refine At.step hm ht ⟨[(4, .b false), (9, .b true)], [true], [], [], []⟩ 8 ⟨[], [], [], 0⟩ [(decide ((((t9.getD t11.toNat (0, (0, (0, [])))).1) : Int) < last)) = false, (decide ((((t9.getD t11.toNat (0, (0, (0, [])))).1) : Int) ≥ 2147483648)) = true, true = true] (by kernel_rfl) ⟨b27_4, b27_9, rfl, trivial⟩ ?_
          have h := Option.some.inj h
          subst h
          have hk : o = f23_capture_Right_out false := hk
          subst hk
          exact At.fin hm ht ⟨[], [], [], [2], []⟩ [] (by kernel_rfl) trivial
        · rcases iteS h with ⟨b27_14, h⟩ | ⟨b27_14, h⟩
          · refine At.step hm ht ⟨[(4, .b false), (9, .b false), (14, .b true)], [true], [], [], []⟩ 8 ⟨[], [], [], 0⟩ [(decide ((((t9.getD t11.toNat (0, (0, (0, [])))).1) : Int) < last)) = false, (decide ((((t9.getD t11.toNat (0, (0, (0, [])))).1) : Int) ≥ 2147483648)) = false, (decide (((((t9.getD t11.toNat (0, (0, (0, [])))).2).1) : Int) < 0)) = true, true = true] (by kernel_rfl) ⟨b27_4, b27_9, b27_14, rfl, trivial⟩ ?_
            have h := Option.some.inj h
            subst h
            have hk : o = f23_capture_Right_out false := hk
            subst hk
            exact At.fin hm ht ⟨[], [], [], [2], []⟩ [] (by kernel_rfl) trivial
          · rcases iteS h with ⟨b27_19, h⟩ | ⟨b27_19, h⟩
            · refine At.step hm ht ⟨[(4, .b false), (9, .b false), (14, .b false), (19, .b true)], [true], [], [], []⟩ 8 ⟨[], [], [], 0⟩ [(decide ((((t9.getD t11.toNat (0, (0, (0, [])))).1) : Int) < last)) = false, (decide ((((t9.getD t11.toNat (0, (0, (0, [])))).1) : Int) ≥ 2147483648)) = false, (decide (((((t9.getD t11.toNat (0, (0, (0, [])))).2).1) : Int) < 0)) = false, (decide (((((t9.getD t11.toNat (0, (0, (0, [])))).2).1) : Int) > 1)) = true, true = true] (by kernel_rfl) ⟨b27_4, b27_9, b27_14, b27_19, rfl, trivial⟩ ?_
              have h := Option.some.inj h
              subst h
              have hk : o = f23_capture_Right_out false := hk
              subst hk
              exact At.fin hm ht ⟨[], [], [], [2], []⟩ [] (by kernel_rfl) trivial
            · rcases iteS h with ⟨b27_24, h⟩ | ⟨b27_24, h⟩
              · refine At.step hm ht ⟨[(4, .b false), (9, .b false), (14, .b false), (19, .b false), (24, .b true)], [true], [], [], []⟩ 8 ⟨[], [], [], 0⟩ [(decide ((((t9.getD t11.toNat (0, (0, (0, [])))).1) : Int) < last)) = false, (decide ((((t9.getD t11.toNat (0, (0, (0, [])))).1) : Int) ≥ 2147483648)) = false, (decide (((((t9.getD t11.toNat (0, (0, (0, [])))).2).1) : Int) < 0)) = false, (decide (((((t9.getD t11.toNat (0, (0, (0, [])))).2).1) : Int) > 1)) = false, (decide ((((((t9.getD t11.toNat (0, (0, (0, [])))).2).2).1) : Int) < 0)) = true, true = true] (by kernel_rfl) ⟨b27_4, b27_9, b27_14, b27_19, b27_24, rfl, trivial⟩ ?_
                have h := Option.some.inj h
                subst h
                have hk : o = f23_capture_Right_out false := hk
                subst hk
                exact At.fin hm ht ⟨[], [], [], [2], []⟩ [] (by kernel_rfl) trivial
              · rcases iteS h with ⟨b27_29, h⟩ | ⟨b27_29, h⟩
                · refine At.step hm ht ⟨[(4, .b false), (9, .b false), (14, .b false), (19, .b false), (24, .b false), (29, .b true)], [true], [], [], []⟩ 8 ⟨[], [], [], 0⟩ [(decide ((((t9.getD t11.toNat (0, (0, (0, [])))).1) : Int) < last)) = false, (decide ((((t9.getD t11.toNat (0, (0, (0, [])))).1) : Int) ≥ 2147483648)) = false, (decide (((((t9.getD t11.toNat (0, (0, (0, [])))).2).1) : Int) < 0)) = false, (decide (((((t9.getD t11.toNat (0, (0, (0, [])))).2).1) : Int) > 1)) = false, (decide ((((((t9.getD t11.toNat (0, (0, (0, [])))).2).2).1) : Int) < 0)) = false, (decide ((((((t9.getD t11.toNat (0, (0, (0, [])))).2).2).1) : Int) ≥ 4)) = true, true = true] (by kernel_rfl) ⟨b27_4, b27_9, b27_14, b27_19, b27_24, b27_29, rfl, trivial⟩ ?_
                  have h := Option.some.inj h
                  subst h
                  have hk : o = f23_capture_Right_out false := hk
                  subst hk
                  exact At.fin hm ht ⟨[], [], [], [2], []⟩ [] (by kernel_rfl) trivial
                · rcases iteS h with ⟨b27_e0, h⟩ | ⟨b27_e0, h⟩
                  · refine At.step hm ht ⟨[(4, .b false), (9, .b false), (14, .b false), (19, .b false), (24, .b false), (29, .b false)], [true], [], [], []⟩ 8 ⟨[], [], [], 0⟩ [(decide ((((t9.getD t11.toNat (0, (0, (0, [])))).1) : Int) < last)) = false, (decide ((((t9.getD t11.toNat (0, (0, (0, [])))).1) : Int) ≥ 2147483648)) = false, (decide (((((t9.getD t11.toNat (0, (0, (0, [])))).2).1) : Int) < 0)) = false, (decide (((((t9.getD t11.toNat (0, (0, (0, [])))).2).1) : Int) > 1)) = false, (decide ((((((t9.getD t11.toNat (0, (0, (0, [])))).2).2).1) : Int) < 0)) = false, (decide ((((((t9.getD t11.toNat (0, (0, (0, [])))).2).2).1) : Int) ≥ 4)) = false, (decide ((((((((t9.getD t11.toNat (0, (0, (0, [])))).2).2).2).length : Nat) : Int) : Int) > 2048)) = true] (by kernel_rfl) ⟨b27_4, b27_9, b27_14, b27_19, b27_24, b27_29, b27_e0, trivial⟩ ?_
                    have h := Option.some.inj h
                    subst h
                    have hk : o = f23_capture_Right_out false := hk
                    subst hk
                    exact At.fin hm ht ⟨[], [], [], [2], []⟩ [] (by kernel_rfl) trivial
                  · refine At.step hm ht ⟨[(4, .b false), (9, .b false), (14, .b false), (19, .b false), (24, .b false), (29, .b false)], [false], [], [5, 9, 10, 11], [0]⟩ 9 ⟨[(5, .one (.c (.ptr 0 0))), (9, .one (.c (.d (.sl (.pair (.int .i64) (.pair (.int .i64) (.pair (.int .i64) (.slice (.int .u8))))) t9)))), (10, .one (.c (.d (.int .i64 t10)))), (11, .one (.c (.d (.int .i64 t11))))], [], [(0, [.d (.int .i64 ((t9.getD t11.toNat (0, (0, (0, [])))).1)), .d (.int .i64 (((t9.getD t11.toNat (0, (0, (0, [])))).2).1)), .d (.int .i64 ((((t9.getD t11.toNat (0, (0, (0, [])))).2).2).1)), .d (.sl (.int .u8) ((((t9.getD t11.toNat (0, (0, (0, [])))).2).2).2))])], 1⟩ [(decide ((((t9.getD t11.toNat (0, (0, (0, [])))).1) : Int) < last)) = false, (decide ((((t9.getD t11.toNat (0, (0, (0, [])))).1) : Int) ≥ 2147483648)) = false, (decide (((((t9.getD t11.toNat (0, (0, (0, [])))).2).1) : Int) < 0)) = false, (decide (((((t9.getD t11.toNat (0, (0, (0, [])))).2).1) : Int) > 1)) = false, (decide ((((((t9.getD t11.toNat (0, (0, (0, [])))).2).2).1) : Int) < 0)) = false, (decide ((((((t9.getD t11.toNat (0, (0, (0, [])))).2).2).1) : Int) ≥ 4)) = false, (decide ((((((((t9.getD t11.toNat (0, (0, (0, [])))).2).2).2).length : Nat) : Int) : Int) > 2048)) = false] (by kernel_rfl) ⟨b27_4, b27_9, b27_14, b27_19, b27_24, b27_29, b27_e0, trivial⟩ ?_
                    refine At.step hm ht ⟨[], [], [], [3, 9, 10, 11], []⟩ 10 ⟨[(3, .one (.c (.d (.int .i64 ((t9.getD t11.toNat (0, (0, (0, [])))).1))))), (9, .one (.c (.d (.sl (.pair (.int .i64) (.pair (.int .i64) (.pair (.int .i64) (.slice (.int .u8))))) t9)))), (10, .one (.c (.d (.int .i64 t10)))), (11, .one (.c (.d (.int .i64 t11))))], [], [], 0⟩ [] (by kernel_rfl) trivial ?_
                    refine At.step hm ht ⟨[], [], [], [3, 9, 10, 11], []⟩ 5 ⟨[(3, .one (.c (.d (.int .i64 ((t9.getD t11.toNat (0, (0, (0, [])))).1))))), (9, .one (.c (.d (.sl (.pair (.int .i64) (.pair (.int .i64) (.pair (.int .i64) (.slice (.int .u8))))) t9)))), (10, .one (.c (.d (.int .i64 t10)))), (11, .one (.c (.d (.int .i64 (IntKind.wrap .i64 (t11 + 1))))))], [], [], 0⟩ [] (by kernel_rfl) trivial ?_
                    exact ih ((t9.getD t11.toNat (0, (0, (0, [])))).1) t9 t10 (IntKind.wrap .i64 (t11 + 1)) w h o hk
    · refine At.step hm ht ⟨[], [false], [], [], []⟩ 11 ⟨[], [], [], 0⟩ [(decide ((t11 : Int) < t10)) = false] (by kernel_rfl) ⟨b25_e0, trivial⟩ ?_
      have h := Option.some.inj h
      subst h
      exact hk
def f23_capture_Right (n : Nat) (l : List (Int × Int × Int × List Int)) : Option (Bool) :=
  if (decide ((((l.length : Nat) : Int) : Int) > 1024)) = true then
    some false
  else
    (f23_capture_Right_L5 n 0 l ((l.length : Nat) : Int) 0).bind fun w37 =>
    match w37 with
    | .inl e38 =>
      some e38
    | .inr e39 =>
      some true
theorem f23_capture_Right_ok (n : Nat) (l : List (Int × Int × Int × List Int)) (r : Bool) (h : f23_capture_Right n l = some r) : FnOK Go.Proofs.Try.prog 23 (f23_capture_Right_in l) (f23_capture_Right_out r) := by
  unfold f23_capture_Right at h
  refine At.fn (r := 0) Go.Proofs.Try.func23 rfl (by kernel_rfl) rfl rfl (by kernel_rfl) ?_
  show At Go.Proofs.Try.prog Go.Proofs.Try.f23 0 0 ⟨[(0, .one (.c (.d (.sl (.pair (.int .i64) (.pair (.int .i64) (.pair (.int .i64) (.slice (.int .u8))))) l))))], [], [], 0⟩ _
  refine At.step hm ht ⟨[], [], [], [0], []⟩ 1 ⟨[(0, .one (.c (.d (.sl (.pair (.int .i64) (.pair (.int .i64) (.pair (.int .i64) (.slice (.int .u8))))) l))))], [], [], 0⟩ [] (by kernel_rfl) trivial ?_
  rcases iteS h with ⟨b21_e0, h⟩ | ⟨b21_e0, h⟩
  · refine At.step hm ht ⟨[], [true], [], [], []⟩ 2 ⟨[], [], [], 0⟩ [(decide ((((l.length : Nat) : Int) : Int) > 1024)) = true] (by kernel_rfl) ⟨b21_e0, trivial⟩ ?_
    have h := Option.some.inj h
    subst h
    exact At.fin hm ht ⟨[], [], [], [2], []⟩ [] (by kernel_rfl) trivial
  · refine At.step hm ht ⟨[], [false], [], [0], []⟩ 3 ⟨[(0, .one (.c (.d (.sl (.pair (.int .i64) (.pair (.int .i64) (.pair (.int .i64) (.slice (.int .u8))))) l))))], [], [], 0⟩ [(decide ((((l.length : Nat) : Int) : Int) > 1024)) = false] (by kernel_rfl) ⟨b21_e0, trivial⟩ ?_
    refine At.step hm ht ⟨[], [], [], [0, 3], []⟩ 4 ⟨[(0, .one (.c (.d (.sl (.pair (.int .i64) (.pair (.int .i64) (.pair (.int .i64) (.slice (.int .u8))))) l)))), (3, .one (.c (.d (.int .i64 0))))], [], [], 0⟩ [] (by kernel_rfl) trivial ?_
    refine At.step hm ht ⟨[], [], [], [3, 9, 10, 11], []⟩ 5 ⟨[(3, .one (.c (.d (.int .i64 0)))), (9, .one (.c (.d (.sl (.pair (.int .i64) (.pair (.int .i64) (.pair (.int .i64) (.slice (.int .u8))))) l)))), (10, .one (.c (.d (.int .i64 ((l.length : Nat) : Int))))), (11, .one (.c (.d (.int .i64 0))))], [], [], 0⟩ [] (by kernel_rfl) trivial ?_
    obtain ⟨w37, cw37, h⟩ := bindS h
    refine f23_capture_Right_L5_ok n 0 l ((l.length : Nat) : Int) 0 w37 cw37 _ ?_
    rcases w37 with e38 | e39
    · have h := Option.some.inj h
      subst h
      rfl
    · show At Go.Proofs.Try.prog Go.Proofs.Try.f23 0 11 ⟨[], [], [], 0⟩ _
      have h := Option.some.inj h
      subst h
      exact At.fin hm ht ⟨[], [], [], [2], []⟩ [] (by kernel_rfl) trivial
/-! brougham/pack.W -/
def f79_pack_W_in (n_ : Int) : Inn := ⟨[.c (.d (.int .u32 n_))], [], [], 0⟩
def f79_pack_W_out (r : Int × Int) : Out := ⟨.one (.agg [.d (.int .i64 r.1), .d (.int .u64 r.2)]), [], [(0, [.d (.int .i64 r.1), .d (.int .u64 r.2)])], 1⟩
def f79_pack_W (n_ : Int) : Option (Int × Int) :=
  some (4, (IntKind.wrap .u64 n_))
theorem f79_pack_W_ok (n_ : Int) (r : Int × Int) (h : f79_pack_W n_ = some r) : FnOK Go.Proofs.Try.prog 79 (f79_pack_W_in n_) (f79_pack_W_out r) := by
  unfold f79_pack_W at h
  refine At.fn (r := 0) Go.Proofs.Try.func79 rfl (by kernel_rfl) rfl rfl (by kernel_rfl) ?_
  show At Go.Proofs.Try.prog Go.Proofs.Try.f79 0 0 ⟨[(0, .one (.c (.d (.int .u32 n_))))], [], [], 0⟩ _
  refine At.step hm ht ⟨[], [], [], [0, 2], [0]⟩ 1 ⟨[(0, .one (.c (.d (.int .u32 n_)))), (2, .one (.c (.ptr 0 0)))], [], [(0, [.d (.int .i64 0), .d (.int .u64 0)])], 1⟩ [] (by kernel_rfl) trivial ?_
  have h := Option.some.inj h
  subst h
  exact At.fin hm ht ⟨[], [], [], [2], [0]⟩ [0 + 2 ≤ 2] (by kernel_rfl) ⟨(by decide), trivial⟩
/-! brougham/pack.H -/
def f80_pack_H_in (n_ : Int) : Inn := ⟨[.c (.d (.int .u16 n_))], [], [], 0⟩
def f80_pack_H_out (r : Int × Int) : Out := ⟨.one (.agg [.d (.int .i64 r.1), .d (.int .u64 r.2)]), [], [(0, [.d (.int .i64 r.1), .d (.int .u64 r.2)])], 1⟩
def f80_pack_H (n_ : Int) : Option (Int × Int) :=
  some (2, (IntKind.wrap .u64 n_))
theorem f80_pack_H_ok (n_ : Int) (r : Int × Int) (h : f80_pack_H n_ = some r) : FnOK Go.Proofs.Try.prog 80 (f80_pack_H_in n_) (f80_pack_H_out r) := by
  unfold f80_pack_H at h
  refine At.fn (r := 0) Go.Proofs.Try.func80 rfl (by kernel_rfl) rfl rfl (by kernel_rfl) ?_
  show At Go.Proofs.Try.prog Go.Proofs.Try.f80 0 0 ⟨[(0, .one (.c (.d (.int .u16 n_))))], [], [], 0⟩ _
  refine At.step hm ht ⟨[], [], [], [0, 2], [0]⟩ 1 ⟨[(0, .one (.c (.d (.int .u16 n_)))), (2, .one (.c (.ptr 0 0)))], [], [(0, [.d (.int .i64 0), .d (.int .u64 0)])], 1⟩ [] (by kernel_rfl) trivial ?_
  have h := Option.some.inj h
  subst h
  exact At.fin hm ht ⟨[], [], [], [2], [0]⟩ [0 + 2 ≤ 2] (by kernel_rfl) ⟨(by decide), trivial⟩
/-! brougham/pack.Put -/
def f78_pack_Put_in (b : List Int) (l : List (Int × Int)) : Inn := ⟨[.c (.d (.sl (.int .u8) b)), .c (.d (.sl (.pair (.int .i64) (.int .u64)) l))], [], [], 0⟩
def f78_pack_Put_out (r : List Int) : Out := ⟨.one (.c (.own 0 (.int .u8) r)), [(0, ⟨5, 0⟩)], [], 1⟩
def f78_pack_Put_L7 : Nat → (List Int) → Int → (List (Int × Int)) → Int → Int → Int → Int → Option (List Int × (List (Int × Int)) × Int × Int)
  | 0, _, _, _, _, _, _, _ => none
  | n + 1, out, i, t11, t12, t13, f_0, f_1 =>
    if (decide ((i : Int) ≥ 0)) = true then
      if (0 : Int) ≤ (IntKind.wrap .i64 (8 * i)) then
      if out.length + [(IntKind.wrap .u8 (Int.fdiv f_1 (2 ^ (min (IntKind.wrap .i64 (8 * i)).toNat (IntKind.bits .u64)))))].length ≤ maxLen ∧ (out.length + [(IntKind.wrap .u8 (Int.fdiv f_1 (2 ^ (min (IntKind.wrap .i64 (8 * i)).toNat (IntKind.bits .u64)))))].length) * 1 ≤ 140737488355328 then
      f78_pack_Put_L7 n (out ++ [(IntKind.wrap .u8 (Int.fdiv f_1 (2 ^ (min (IntKind.wrap .i64 (8 * i)).toNat (IntKind.bits .u64)))))]) (IntKind.wrap .i64 (i - 1)) t11 t12 t13 f_0 f_1
      else none
      else none
    else
      some ((out, t11, t12, t13))
def f78_pack_Put_L7_k (e : List Int × (List (Int × Int)) × Int × Int) (o : Out) : Prop := At Go.Proofs.Try.prog Go.Proofs.Try.f78 0 10 ⟨[(5, .one (.c (.own 0 (.int .u8) e.1))), (11, .one (.c (.d (.sl (.pair (.int .i64) (.int .u64)) e.2.1)))), (12, .one (.c (.d (.int .i64 e.2.2.1)))), (13, .one (.c (.d (.int .i64 e.2.2.2))))], [(0, some ⟨5, 0⟩)], [], 1⟩ o
theorem f78_pack_Put_L7_ok (n : Nat) : ∀ (out : List Int) (i : Int) (t11 : List (Int × Int)) (t12 : Int) (t13 : Int) (f_0 : Int) (f_1 : Int) (w : List Int × (List (Int × Int)) × Int × Int) (h : f78_pack_Put_L7 n out i t11 t12 t13 f_0 f_1 = some w) (o : Out) (hk : f78_pack_Put_L7_k w o), At Go.Proofs.Try.prog Go.Proofs.Try.f78 0 7 ⟨[(5, .one (.c (.own 0 (.int .u8) out))), (7, .one (.c (.ptr 1 0))), (8, .one (.c (.d (.int .i64 i)))), (11, .one (.c (.d (.sl (.pair (.int .i64) (.int .u64)) t11)))), (12, .one (.c (.d (.int .i64 t12)))), (13, .one (.c (.d (.int .i64 t13))))], [(0, some ⟨5, 0⟩)], [(1, [.d (.int .i64 f_0), .d (.int .u64 f_1)])], 2⟩ o := by
  induction n with
  | zero => intro out i t11 t12 t13 f_0 f_1 w h; rw [f78_pack_Put_L7] at h; cases h
  | succ n ih =>
    intro out i t11 t12 t13 f_0 f_1 w h o hk
    rw [f78_pack_Put_L7] at h
    rcases iteS h with ⟨b56_e0, h⟩ | ⟨b56_e0, h⟩
    · refine At.step hm ht ⟨[], [true], [], [5, 7, 8, 11, 12, 13], [0, 1]⟩ 9 ⟨[(5, .one (.c (.own 0 (.int .u8) out))), (7, .one (.c (.ptr 1 0))), (8, .one (.c (.d (.int .i64 i)))), (11, .one (.c (.d (.sl (.pair (.int .i64) (.int .u64)) t11)))), (12, .one (.c (.d (.int .i64 t12)))), (13, .one (.c (.d (.int .i64 t13))))], [(0, some ⟨5, 0⟩)], [(1, [.d (.int .i64 f_0), .d (.int .u64 f_1)])], 2⟩ [(decide ((i : Int) ≥ 0)) = true] (by kernel_rfl) ⟨b56_e0, trivial⟩ ?_
      obtain ⟨g57_0, h⟩ := ifS h
      obtain ⟨g57_1, h⟩ := ifS h
      refine At.step hm ht ⟨[], [], [], [5, 7, 8, 11, 12, 13], [10, 1]⟩ 8 ⟨[(5, .one (.c (.own 0 (.int .u8) (out ++ [(IntKind.wrap .u8 (Int.fdiv f_1 (2 ^ (min (IntKind.wrap .i64 (8 * i)).toNat (IntKind.bits .u64)))))])))), (7, .one (.c (.ptr 1 0))), (8, .one (.c (.d (.int .i64 i)))), (11, .one (.c (.d (.sl (.pair (.int .i64) (.int .u64)) t11)))), (12, .one (.c (.d (.int .i64 t12)))), (13, .one (.c (.d (.int .i64 t13))))], [(0, some ⟨5, 0⟩)], [(1, [.d (.int .i64 f_0), .d (.int .u64 f_1)])], 2⟩ [(0 : Int) ≤ (IntKind.wrap .i64 (8 * i)), out.length + [(IntKind.wrap .u8 (Int.fdiv f_1 (2 ^ (min (IntKind.wrap .i64 (8 * i)).toNat (IntKind.bits .u64)))))].length ≤ maxLen ∧ (out.length + [(IntKind.wrap .u8 (Int.fdiv f_1 (2 ^ (min (IntKind.wrap .i64 (8 * i)).toNat (IntKind.bits .u64)))))].length) * 1 ≤ 140737488355328] (by kernel_rfl) ⟨g57_0, g57_1, trivial⟩ ?_
      refine At.step hm ht ⟨[], [], [], [5, 7, 8, 11, 12, 13], [0, 1]⟩ 7 ⟨[(5, .one (.c (.own 0 (.int .u8) (out ++ [(IntKind.wrap .u8 (Int.fdiv f_1 (2 ^ (min (IntKind.wrap .i64 (8 * i)).toNat (IntKind.bits .u64)))))])))), (7, .one (.c (.ptr 1 0))), (8, .one (.c (.d (.int .i64 (IntKind.wrap .i64 (i - 1)))))), (11, .one (.c (.d (.sl (.pair (.int .i64) (.int .u64)) t11)))), (12, .one (.c (.d (.int .i64 t12)))), (13, .one (.c (.d (.int .i64 t13))))], [(0, some ⟨5, 0⟩)], [(1, [.d (.int .i64 f_0), .d (.int .u64 f_1)])], 2⟩ [] (by kernel_rfl) trivial ?_
      exact ih (out ++ [(IntKind.wrap .u8 (Int.fdiv f_1 (2 ^ (min (IntKind.wrap .i64 (8 * i)).toNat (IntKind.bits .u64)))))]) (IntKind.wrap .i64 (i - 1)) t11 t12 t13 f_0 f_1 w h o hk
    · refine At.step hm ht ⟨[], [false], [], [5, 11, 12, 13], [0]⟩ 10 ⟨[(5, .one (.c (.own 0 (.int .u8) out))), (11, .one (.c (.d (.sl (.pair (.int .i64) (.int .u64)) t11)))), (12, .one (.c (.d (.int .i64 t12)))), (13, .one (.c (.d (.int .i64 t13))))], [(0, some ⟨5, 0⟩)], [], 1⟩ [(decide ((i : Int) ≥ 0)) = false] (by kernel_rfl) ⟨b56_e0, trivial⟩ ?_
      have h := Option.some.inj h
      subst h
      exact hk
def f78_pack_Put_L3 : Nat → (List Int) → (List (Int × Int)) → Int → Int → Option (List Int)
  | 0, _, _, _, _ => none
  | n + 1, out, t11, t12, t13 =>
    if (decide ((t13 : Int) < t12)) = true then
      if (0 : Int) ≤ t13 ∧ t13 < (((t11).length : Nat) : Int) then
      if (decide ((((t11.getD t13.toNat (0, 0)).1) : Int) < 1)) = true then
        f78_pack_Put_L3 n out t11 t12 (IntKind.wrap .i64 (t13 + 1))
      else
        if (decide ((((t11.getD t13.toNat (0, 0)).1) : Int) > 8)) = true then
          f78_pack_Put_L3 n out t11 t12 (IntKind.wrap .i64 (t13 + 1))
        else
          (f78_pack_Put_L7 n out (IntKind.wrap .i64 (((t11.getD t13.toNat (0, 0)).1) - 1)) t11 t12 t13 ((t11.getD t13.toNat (0, 0)).1) ((t11.getD t13.toNat (0, 0)).2)).bind fun w59 =>
          f78_pack_Put_L3 n w59.1 w59.2.1 w59.2.2.1 (IntKind.wrap .i64 (w59.2.2.2 + 1))
      else none
    else
      some (out)
def f78_pack_Put_L3_k (e : List Int) (o : Out) : Prop := At Go.Proofs.Try.prog Go.Proofs.Try.f78 0 11 ⟨[(5, .one (.c (.own 0 (.int .u8) e)))], [(0, some ⟨5, 0⟩)], [], 1⟩ o
theorem f78_pack_Put_L3_ok (n : Nat) : ∀ (out : List Int) (t11 : List (Int × Int)) (t12 : Int) (t13 : Int) (w : List Int) (h : f78_pack_Put_L3 n out t11 t12 t13 = some w) (o : Out) (hk : f78_pack_Put_L3_k w o), At Go.Proofs.Try.prog Go.Proofs.Try.f78 0 3 ⟨[(5, .one (.c (.own 0 (.int .u8) out))), (11, .one (.c (.d (.sl (.pair (.int .i64) (.int .u64)) t11)))), (12, .one (.c (.d (.int .i64 t12)))), (13, .one (.c (.d (.int .i64 t13))))], [(0, some ⟨5, 0⟩)], [], 1⟩ o := by
  induction n with
  | zero => intro out t11 t12 t13 w h; rw [f78_pack_Put_L3] at h; cases h
  | succ n ih =>
    intro out t11 t12 t13 w h o hk
    rw [f78_pack_Put_L3] at h
    rcases iteS h with ⟨b50_e0, h⟩ | ⟨b50_e0, h⟩
    · refine At.step hm ht ⟨[], [true], [], [5, 11, 12, 13], [0]⟩ 4 ⟨[(5, .one (.c (.own 0 (.int .u8) out))), (11, .one (.c (.d (.sl (.pair (.int .i64) (.int .u64)) t11)))), (12, .one (.c (.d (.int .i64 t12)))), (13, .one (.c (.d (.int .i64 t13))))], [(0, some ⟨5, 0⟩)], [], 1⟩ [(decide ((t13 : Int) < t12)) = true] (by kernel_rfl) ⟨b50_e0, trivial⟩ ?_
      obtain ⟨g51_0, h⟩ := ifS h
      refine At.step hm ht ⟨[], [], [], [5, 7, 11, 12, 13], [0, 3]⟩ 5 ⟨[(5, .one (.c (.own 0 (.int .u8) out))), (7, .one (.c (.ptr 1 0))), (11, .one (.c (.d (.sl (.pair (.int .i64) (.int .u64)) t11)))), (12, .one (.c (.d (.int .i64 t12)))), (13, .one (.c (.d (.int .i64 t13))))], [(0, some ⟨5, 0⟩)], [(1, [.d (.int .i64 ((t11.getD t13.toNat (0, 0)).1)), .d (.int .u64 ((t11.getD t13.toNat (0, 0)).2))])], 2⟩ [(0 : Int) ≤ t13 ∧ t13 < (((t11).length : Nat) : Int), 0 + 2 ≤ 2] (by kernel_rfl) ⟨g51_0, (by decide), trivial⟩ ?_
      rcases iteS h with ⟨b52_3, h⟩ | ⟨b52_3, h⟩
      · refine At.step hm ht ⟨[(3, .b true)], [true], [], [5, 11, 12, 13], [0]⟩ 10 ⟨[(5, .one (.c (.own 0 (.int .u8) out))), (11, .one (.c (.d (.sl (.pair (.int .i64) (.int .u64)) t11)))), (12, .one (.c (.d (.int .i64 t12)))), (13, .one (.c (.d (.int .i64 t13))))], [(0, some ⟨5, 0⟩)], [], 1⟩ [(decide ((((t11.getD t13.toNat (0, 0)).1) : Int) < 1)) = true, true = true] (by kernel_rfl) ⟨b52_3, rfl, trivial⟩ ?_
        refine At.step hm ht ⟨[], [], [], [5, 11, 12, 13], [0]⟩ 3 ⟨[(5, .one (.c (.own 0 (.int .u8) out))), (11, .one (.c (.d (.sl (.pair (.int .i64) (.int .u64)) t11)))), (12, .one (.c (.d (.int .i64 t12)))), (13, .one (.c (.d (.int .i64 (IntKind.wrap .i64 (t13 + 1))))))], [(0, some ⟨5, 0⟩)], [], 1⟩ [] (by kernel_rfl) trivial ?_
        exact ih out t11 t12 (IntKind.wrap .i64 (t13 + 1)) w h o hk
      · rcases iteS h with ⟨b52_e0, h⟩ | ⟨b52_e0, h⟩
        · refine At.step hm ht ⟨[(3, .b false)], [true], [], [5, 11, 12, 13], [0]⟩ 10 ⟨[(5, .one (.c (.own 0 (.int .u8) out))), (11, .one (.c (.d (.sl (.pair (.int .i64) (.int .u64)) t11)))), (12, .one (.c (.d (.int .i64 t12)))), (13, .one (.c (.d (.int .i64 t13))))], [(0, some ⟨5, 0⟩)], [], 1⟩ [(decide ((((t11.getD t13.toNat (0, 0)).1) : Int) < 1)) = false, (decide ((((t11.getD t13.toNat (0, 0)).1) : Int) > 8)) = true] (by kernel_rfl) ⟨b52_3, b52_e0, trivial⟩ ?_
          refine At.step hm ht ⟨[], [], [], [5, 11, 12, 13], [0]⟩ 3 ⟨[(5, .one (.c (.own 0 (.int .u8) out))), (11, .one (.c (.d (.sl (.pair (.int .i64) (.int .u64)) t11)))), (12, .one (.c (.d (.int .i64 t12)))), (13, .one (.c (.d (.int .i64 (IntKind.wrap .i64 (t13 + 1))))))], [(0, some ⟨5, 0⟩)], [], 1⟩ [] (by kernel_rfl) trivial ?_
          exact ih out t11 t12 (IntKind.wrap .i64 (t13 + 1)) w h o hk
        · refine At.step hm ht ⟨[(3, .b false)], [false], [], [5, 7, 11, 12, 13], [0, 1]⟩ 6 ⟨[(5, .one (.c (.own 0 (.int .u8) out))), (7, .one (.c (.ptr 1 0))), (11, .one (.c (.d (.sl (.pair (.int .i64) (.int .u64)) t11)))), (12, .one (.c (.d (.int .i64 t12)))), (13, .one (.c (.d (.int .i64 t13))))], [(0, some ⟨5, 0⟩)], [(1, [.d (.int .i64 ((t11.getD t13.toNat (0, 0)).1)), .d (.int .u64 ((t11.getD t13.toNat (0, 0)).2))])], 2⟩ [(decide ((((t11.getD t13.toNat (0, 0)).1) : Int) < 1)) = false, (decide ((((t11.getD t13.toNat (0, 0)).1) : Int) > 8)) = false] (by kernel_rfl) ⟨b52_3, b52_e0, trivial⟩ ?_
          refine At.step hm ht ⟨[], [], [], [5, 7, 8, 11, 12, 13], [0, 1]⟩ 7 ⟨[(5, .one (.c (.own 0 (.int .u8) out))), (7, .one (.c (.ptr 1 0))), (8, .one (.c (.d (.int .i64 (IntKind.wrap .i64 (((t11.getD t13.toNat (0, 0)).1) - 1)))))), (11, .one (.c (.d (.sl (.pair (.int .i64) (.int .u64)) t11)))), (12, .one (.c (.d (.int .i64 t12)))), (13, .one (.c (.d (.int .i64 t13))))], [(0, some ⟨5, 0⟩)], [(1, [.d (.int .i64 ((t11.getD t13.toNat (0, 0)).1)), .d (.int .u64 ((t11.getD t13.toNat (0, 0)).2))])], 2⟩ [] (by kernel_rfl) trivial ?_
          obtain ⟨w59, cw59, h⟩ := bindS h
          refine f78_pack_Put_L7_ok n out (IntKind.wrap .i64 (((t11.getD t13.toNat (0, 0)).1) - 1)) t11 t12 t13 ((t11.getD t13.toNat (0, 0)).1) ((t11.getD t13.toNat (0, 0)).2) w59 cw59 _ ?_
          show At Go.Proofs.Try.prog Go.Proofs.Try.f78 0 10 ⟨[(5, .one (.c (.own 0 (.int .u8) w59.1))), (11, .one (.c (.d (.sl (.pair (.int .i64) (.int .u64)) w59.2.1)))), (12, .one (.c (.d (.int .i64 w59.2.2.1)))), (13, .one (.c (.d (.int .i64 w59.2.2.2))))], [(0, some ⟨5, 0⟩)], [], 1⟩ _
          refine At.step hm ht ⟨[], [], [], [5, 11, 12, 13], [0]⟩ 3 ⟨[(5, .one (.c (.own 0 (.int .u8) w59.1))), (11, .one (.c (.d (.sl (.pair (.int .i64) (.int .u64)) w59.2.1)))), (12, .one (.c (.d (.int .i64 w59.2.2.1)))), (13, .one (.c (.d (.int .i64 (IntKind.wrap .i64 (w59.2.2.2 + 1))))))], [(0, some ⟨5, 0⟩)], [], 1⟩ [] (by kernel_rfl) trivial ?_
          exact ih w59.1 w59.2.1 w59.2.2.1 (IntKind.wrap .i64 (w59.2.2.2 + 1)) w h o hk
    · refine At.step hm ht ⟨[], [false], [], [5], [0]⟩ 11 ⟨[(5, .one (.c (.own 0 (.int .u8) out)))], [(0, some ⟨5, 0⟩)], [], 1⟩ [(decide ((t13 : Int) < t12)) = false] (by kernel_rfl) ⟨b50_e0, trivial⟩ ?_
      have h := Option.some.inj h
      subst h
      exact hk
def f78_pack_Put (n : Nat) (b : List Int) (l : List (Int × Int)) : Option (List Int) :=
  if b.length ≤ maxLen ∧ b.length * 1 ≤ 140737488355328 then
  (f78_pack_Put_L3 n b l ((l.length : Nat) : Int) 0).bind fun w62 =>
  some w62
  else none
theorem f78_pack_Put_ok (n : Nat) (b : List Int) (l : List (Int × Int)) (r : List Int) (h : f78_pack_Put n b l = some r) : FnOK Go.Proofs.Try.prog 78 (f78_pack_Put_in b l) (f78_pack_Put_out r) := by
  unfold f78_pack_Put at h
  refine At.fn (r := 0) Go.Proofs.Try.func78 rfl (by kernel_rfl) rfl rfl (by kernel_rfl) ?_
  show At Go.Proofs.Try.prog Go.Proofs.Try.f78 0 0 ⟨[(0, .one (.c (.d (.sl (.int .u8) b)))), (1, .one (.c (.d (.sl (.pair (.int .i64) (.int .u64)) l))))], [], [], 0⟩ _
  refine At.step hm ht ⟨[], [], [], [0, 1], []⟩ 1 ⟨[(0, .one (.c (.d (.sl (.int .u8) b)))), (1, .one (.c (.d (.sl (.pair (.int .i64) (.int .u64)) l))))], [], [], 0⟩ [] (by kernel_rfl) trivial ?_
  obtain ⟨g48_0, h⟩ := ifS h
  refine At.step hm ht ⟨[], [], [], [1, 5], [1]⟩ 2 ⟨[(1, .one (.c (.d (.sl (.pair (.int .i64) (.int .u64)) l)))), (5, .one (.c (.own 0 (.int .u8) b)))], [(0, some ⟨5, 0⟩)], [], 1⟩ [b.length ≤ maxLen ∧ b.length * 1 ≤ 140737488355328] (by kernel_rfl) ⟨g48_0, trivial⟩ ?_
  refine At.step hm ht ⟨[], [], [], [5, 11, 12, 13], [0]⟩ 3 ⟨[(5, .one (.c (.own 0 (.int .u8) b))), (11, .one (.c (.d (.sl (.pair (.int .i64) (.int .u64)) l)))), (12, .one (.c (.d (.int .i64 ((l.length : Nat) : Int))))), (13, .one (.c (.d (.int .i64 0))))], [(0, some ⟨5, 0⟩)], [], 1⟩ [] (by kernel_rfl) trivial ?_
  obtain ⟨w62, cw62, h⟩ := bindS h
  refine f78_pack_Put_L3_ok n b l ((l.length : Nat) : Int) 0 w62 cw62 _ ?_
  show At Go.Proofs.Try.prog Go.Proofs.Try.f78 0 11 ⟨[(5, .one (.c (.own 0 (.int .u8) w62)))], [(0, some ⟨5, 0⟩)], [], 1⟩ _
  have h := Option.some.inj h
  subst h
  exact At.fin hm ht ⟨[], [], [], [4], [0]⟩ [] (by kernel_rfl) trivial
/-! brougham/pack.B -/
def f81_pack_B_in (n_ : Int) : Inn := ⟨[.c (.d (.int .u8 n_))], [], [], 0⟩
def f81_pack_B_out (r : Int × Int) : Out := ⟨.one (.agg [.d (.int .i64 r.1), .d (.int .u64 r.2)]), [], [(0, [.d (.int .i64 r.1), .d (.int .u64 r.2)])], 1⟩
def f81_pack_B (n_ : Int) : Option (Int × Int) :=
  some (1, (IntKind.wrap .u64 n_))
theorem f81_pack_B_ok (n_ : Int) (r : Int × Int) (h : f81_pack_B n_ = some r) : FnOK Go.Proofs.Try.prog 81 (f81_pack_B_in n_) (f81_pack_B_out r) := by
  unfold f81_pack_B at h
  refine At.fn (r := 0) Go.Proofs.Try.func81 rfl (by kernel_rfl) rfl rfl (by kernel_rfl) ?_
  show At Go.Proofs.Try.prog Go.Proofs.Try.f81 0 0 ⟨[(0, .one (.c (.d (.int .u8 n_))))], [], [], 0⟩ _
  refine At.step hm ht ⟨[], [], [], [0, 2], [0]⟩ 1 ⟨[(0, .one (.c (.d (.int .u8 n_)))), (2, .one (.c (.ptr 0 0)))], [], [(0, [.d (.int .i64 0), .d (.int .u64 0)])], 1⟩ [] (by kernel_rfl) trivial ?_
  have h := Option.some.inj h
  subst h
  exact At.fin hm ht ⟨[], [], [], [2], [0]⟩ [0 + 2 ≤ 2] (by kernel_rfl) ⟨(by decide), trivial⟩
/-! brougham/capture.Sum -/
def f25_capture_Sum_in (b : List Int) : Inn := ⟨[.c (.d (.sl (.int .u8) b))], [], [], 0⟩
def f25_capture_Sum_out (r : Int) : Out := ⟨.one (.c (.d (.int .u32 r))), [], [], 0⟩
def f25_capture_Sum_L3 : Nat → (List Int) → Int → Int → Int → Option (Int × Int)
  | 0, _, _, _, _ => none
  | n + 1, b, x, y, i =>
    if (decide ((i : Int) < ((b.length : Nat) : Int))) = true then
      if (0 : Int) ≤ i ∧ i < (((b).length : Nat) : Int) then
      if (decide (((IntKind.wrap .i64 (i + 1)) : Int) < ((b.length : Nat) : Int))) = true then
        if (0 : Int) ≤ (IntKind.wrap .i64 (i + 1)) ∧ (IntKind.wrap .i64 (i + 1)) < (((b).length : Nat) : Int) then
        f25_capture_Sum_L3 n b (Int.tmod (IntKind.wrap .u32 (x + (bits .or .u32 (IntKind.wrap .u32 ((IntKind.wrap .u32 (b.getD i.toNat 0)) * 2 ^ 8)) (IntKind.wrap .u32 (b.getD (IntKind.wrap .i64 (i + 1)).toNat 0))))) 65535) (Int.tmod (IntKind.wrap .u32 (y + (Int.tmod (IntKind.wrap .u32 (x + (bits .or .u32 (IntKind.wrap .u32 ((IntKind.wrap .u32 (b.getD i.toNat 0)) * 2 ^ 8)) (IntKind.wrap .u32 (b.getD (IntKind.wrap .i64 (i + 1)).toNat 0))))) 65535))) 65535) (IntKind.wrap .i64 (i + 2))
        else none
      else
        f25_capture_Sum_L3 n b (Int.tmod (IntKind.wrap .u32 (x + (IntKind.wrap .u32 ((IntKind.wrap .u32 (b.getD i.toNat 0)) * 2 ^ 8)))) 65535) (Int.tmod (IntKind.wrap .u32 (y + (Int.tmod (IntKind.wrap .u32 (x + (IntKind.wrap .u32 ((IntKind.wrap .u32 (b.getD i.toNat 0)) * 2 ^ 8)))) 65535))) 65535) (IntKind.wrap .i64 (i + 2))
      else none
    else
      some ((x, y))
def f25_capture_Sum_L3_k (e : Int × Int) (o : Out) : Prop := At Go.Proofs.Try.prog Go.Proofs.Try.f25 0 10 ⟨[(3, .one (.c (.d (.int .u32 e.1)))), (4, .one (.c (.d (.int .u32 e.2))))], [], [], 0⟩ o
theorem f25_capture_Sum_L3_ok (n : Nat) : ∀ (b : List Int) (x : Int) (y : Int) (i : Int) (w : Int × Int) (h : f25_capture_Sum_L3 n b x y i = some w) (o : Out) (hk : f25_capture_Sum_L3_k w o), At Go.Proofs.Try.prog Go.Proofs.Try.f25 0 3 ⟨[(0, .one (.c (.d (.sl (.int .u8) b)))), (3, .one (.c (.d (.int .u32 x)))), (4, .one (.c (.d (.int .u32 y)))), (5, .one (.c (.d (.int .i64 i))))], [], [], 0⟩ o := by
  induction n with
  | zero => intro b x y i w h; rw [f25_capture_Sum_L3] at h; cases h
  | succ n ih =>
    intro b x y i w h o hk
    rw [f25_capture_Sum_L3] at h
    rcases iteS h with ⟨b81_e0, h⟩ | ⟨b81_e0, h⟩
    · refine At.step hm ht ⟨[], [true], [], [0, 3, 4, 5], []⟩ 5 ⟨[(0, .one (.c (.d (.sl (.int .u8) b)))), (3, .one (.c (.d (.int .u32 x)))), (4, .one (.c (.d (.int .u32 y)))), (5, .one (.c (.d (.int .i64 i))))], [], [], 0⟩ [(decide ((i : Int) < ((b.length : Nat) : Int))) = true] (by kernel_rfl) ⟨b81_e0, trivial⟩ ?_
      obtain ⟨g82_0, h⟩ := ifS h
      refine At.step hm ht ⟨[], [], [], [0, 3, 4, 5, 6], []⟩ 6 ⟨[(0, .one (.c (.d (.sl (.int .u8) b)))), (3, .one (.c (.d (.int .u32 x)))), (4, .one (.c (.d (.int .u32 y)))), (5, .one (.c (.d (.int .i64 i)))), (6, .one (.c (.d (.int .u32 (IntKind.wrap .u32 ((IntKind.wrap .u32 (b.getD i.toNat 0)) * 2 ^ 8))))))], [], [], 0⟩ [(0 : Int) ≤ i ∧ i < (((b).length : Nat) : Int), (0 : Int) ≤ 8] (by kernel_rfl) ⟨g82_0, (by decide), trivial⟩ ?_
      rcases iteS h with ⟨b83_e0, h⟩ | ⟨b83_e0, h⟩
      · refine At.step hm ht ⟨[], [true], [], [0, 3, 4, 5, 6], []⟩ 7 ⟨[(0, .one (.c (.d (.sl (.int .u8) b)))), (3, .one (.c (.d (.int .u32 x)))), (4, .one (.c (.d (.int .u32 y)))), (5, .one (.c (.d (.int .i64 i)))), (6, .one (.c (.d (.int .u32 (IntKind.wrap .u32 ((IntKind.wrap .u32 (b.getD i.toNat 0)) * 2 ^ 8))))))], [], [], 0⟩ [(decide (((IntKind.wrap .i64 (i + 1)) : Int) < ((b.length : Nat) : Int))) = true] (by kernel_rfl) ⟨b83_e0, trivial⟩ ?_
        obtain ⟨g84_0, h⟩ := ifS h
        refine At.step hm ht ⟨[], [], [], [0, 3, 4, 5, 6], []⟩ 8 ⟨[(0, .one (.c (.d (.sl (.int .u8) b)))), (3, .one (.c (.d (.int .u32 x)))), (4, .one (.c (.d (.int .u32 y)))), (5, .one (.c (.d (.int .i64 i)))), (6, .one (.c (.d (.int .u32 (bits .or .u32 (IntKind.wrap .u32 ((IntKind.wrap .u32 (b.getD i.toNat 0)) * 2 ^ 8)) (IntKind.wrap .u32 (b.getD (IntKind.wrap .i64 (i + 1)).toNat 0)))))))], [], [], 0⟩ [(0 : Int) ≤ (IntKind.wrap .i64 (i + 1)) ∧ (IntKind.wrap .i64 (i + 1)) < (((b).length : Nat) : Int)] (by kernel_rfl) ⟨g84_0, trivial⟩ ?_
        refine At.step hm ht ⟨[], [], [], [0, 3, 4, 5], []⟩ 9 ⟨[(0, .one (.c (.d (.sl (.int .u8) b)))), (3, .one (.c (.d (.int .u32 (Int.tmod (IntKind.wrap .u32 (x + (bits .or .u32 (IntKind.wrap .u32 ((IntKind.wrap .u32 (b.getD i.toNat 0)) * 2 ^ 8)) (IntKind.wrap .u32 (b.getD (IntKind.wrap .i64 (i + 1)).toNat 0))))) 65535))))), (4, .one (.c (.d (.int .u32 y)))), (5, .one (.c (.d (.int .i64 i))))], [], [], 0⟩ [(65535 : Int) ≠ 0] (by kernel_rfl) ⟨(by decide), trivial⟩ ?_
        refine At.step hm ht ⟨[], [], [], [0, 3, 4, 5], []⟩ 4 ⟨[(0, .one (.c (.d (.sl (.int .u8) b)))), (3, .one (.c (.d (.int .u32 (Int.tmod (IntKind.wrap .u32 (x + (bits .or .u32 (IntKind.wrap .u32 ((IntKind.wrap .u32 (b.getD i.toNat 0)) * 2 ^ 8)) (IntKind.wrap .u32 (b.getD (IntKind.wrap .i64 (i + 1)).toNat 0))))) 65535))))), (4, .one (.c (.d (.int .u32 (Int.tmod (IntKind.wrap .u32 (y + (Int.tmod (IntKind.wrap .u32 (x + (bits .or .u32 (IntKind.wrap .u32 ((IntKind.wrap .u32 (b.getD i.toNat 0)) * 2 ^ 8)) (IntKind.wrap .u32 (b.getD (IntKind.wrap .i64 (i + 1)).toNat 0))))) 65535))) 65535))))), (5, .one (.c (.d (.int .i64 i))))], [], [], 0⟩ [(65535 : Int) ≠ 0] (by kernel_rfl) ⟨(by decide), trivial⟩ ?_
        refine At.step hm ht ⟨[], [], [], [0, 3, 4, 5], []⟩ 3 ⟨[(0, .one (.c (.d (.sl (.int .u8) b)))), (3, .one (.c (.d (.int .u32 (Int.tmod (IntKind.wrap .u32 (x + (bits .or .u32 (IntKind.wrap .u32 ((IntKind.wrap .u32 (b.getD i.toNat 0)) * 2 ^ 8)) (IntKind.wrap .u32 (b.getD (IntKind.wrap .i64 (i + 1)).toNat 0))))) 65535))))), (4, .one (.c (.d (.int .u32 (Int.tmod (IntKind.wrap .u32 (y + (Int.tmod (IntKind.wrap .u32 (x + (bits .or .u32 (IntKind.wrap .u32 ((IntKind.wrap .u32 (b.getD i.toNat 0)) * 2 ^ 8)) (IntKind.wrap .u32 (b.getD (IntKind.wrap .i64 (i + 1)).toNat 0))))) 65535))) 65535))))), (5, .one (.c (.d (.int .i64 (IntKind.wrap .i64 (i + 2))))))], [], [], 0⟩ [] (by kernel_rfl) trivial ?_
        exact ih b (Int.tmod (IntKind.wrap .u32 (x + (bits .or .u32 (IntKind.wrap .u32 ((IntKind.wrap .u32 (b.getD i.toNat 0)) * 2 ^ 8)) (IntKind.wrap .u32 (b.getD (IntKind.wrap .i64 (i + 1)).toNat 0))))) 65535) (Int.tmod (IntKind.wrap .u32 (y + (Int.tmod (IntKind.wrap .u32 (x + (bits .or .u32 (IntKind.wrap .u32 ((IntKind.wrap .u32 (b.getD i.toNat 0)) * 2 ^ 8)) (IntKind.wrap .u32 (b.getD (IntKind.wrap .i64 (i + 1)).toNat 0))))) 65535))) 65535) (IntKind.wrap .i64 (i + 2)) w h o hk
      · refine At.step hm ht ⟨[], [false], [], [0, 3, 4, 5, 6], []⟩ 8 ⟨[(0, .one (.c (.d (.sl (.int .u8) b)))), (3, .one (.c (.d (.int .u32 x)))), (4, .one (.c (.d (.int .u32 y)))), (5, .one (.c (.d (.int .i64 i)))), (6, .one (.c (.d (.int .u32 (IntKind.wrap .u32 ((IntKind.wrap .u32 (b.getD i.toNat 0)) * 2 ^ 8))))))], [], [], 0⟩ [(decide (((IntKind.wrap .i64 (i + 1)) : Int) < ((b.length : Nat) : Int))) = false] (by kernel_rfl) ⟨b83_e0, trivial⟩ ?_
        refine At.step hm ht ⟨[], [], [], [0, 3, 4, 5], []⟩ 9 ⟨[(0, .one (.c (.d (.sl (.int .u8) b)))), (3, .one (.c (.d (.int .u32 (Int.tmod (IntKind.wrap .u32 (x + (IntKind.wrap .u32 ((IntKind.wrap .u32 (b.getD i.toNat 0)) * 2 ^ 8)))) 65535))))), (4, .one (.c (.d (.int .u32 y)))), (5, .one (.c (.d (.int .i64 i))))], [], [], 0⟩ [(65535 : Int) ≠ 0] (by kernel_rfl) ⟨(by decide), trivial⟩ ?_
        refine At.step hm ht ⟨[], [], [], [0, 3, 4, 5], []⟩ 4 ⟨[(0, .one (.c (.d (.sl (.int .u8) b)))), (3, .one (.c (.d (.int .u32 (Int.tmod (IntKind.wrap .u32 (x + (IntKind.wrap .u32 ((IntKind.wrap .u32 (b.getD i.toNat 0)) * 2 ^ 8)))) 65535))))), (4, .one (.c (.d (.int .u32 (Int.tmod (IntKind.wrap .u32 (y + (Int.tmod (IntKind.wrap .u32 (x + (IntKind.wrap .u32 ((IntKind.wrap .u32 (b.getD i.toNat 0)) * 2 ^ 8)))) 65535))) 65535))))), (5, .one (.c (.d (.int .i64 i))))], [], [], 0⟩ [(65535 : Int) ≠ 0] (by kernel_rfl) ⟨(by decide), trivial⟩ ?_
        refine At.step hm ht ⟨[], [], [], [0, 3, 4, 5], []⟩ 3 ⟨[(0, .one (.c (.d (.sl (.int .u8) b)))), (3, .one (.c (.d (.int .u32 (Int.tmod (IntKind.wrap .u32 (x + (IntKind.wrap .u32 ((IntKind.wrap .u32 (b.getD i.toNat 0)) * 2 ^ 8)))) 65535))))), (4, .one (.c (.d (.int .u32 (Int.tmod (IntKind.wrap .u32 (y + (Int.tmod (IntKind.wrap .u32 (x + (IntKind.wrap .u32 ((IntKind.wrap .u32 (b.getD i.toNat 0)) * 2 ^ 8)))) 65535))) 65535))))), (5, .one (.c (.d (.int .i64 (IntKind.wrap .i64 (i + 2))))))], [], [], 0⟩ [] (by kernel_rfl) trivial ?_
        exact ih b (Int.tmod (IntKind.wrap .u32 (x + (IntKind.wrap .u32 ((IntKind.wrap .u32 (b.getD i.toNat 0)) * 2 ^ 8)))) 65535) (Int.tmod (IntKind.wrap .u32 (y + (Int.tmod (IntKind.wrap .u32 (x + (IntKind.wrap .u32 ((IntKind.wrap .u32 (b.getD i.toNat 0)) * 2 ^ 8)))) 65535))) 65535) (IntKind.wrap .i64 (i + 2)) w h o hk
    · refine At.step hm ht ⟨[], [false], [], [3, 4], []⟩ 10 ⟨[(3, .one (.c (.d (.int .u32 x)))), (4, .one (.c (.d (.int .u32 y))))], [], [], 0⟩ [(decide ((i : Int) < ((b.length : Nat) : Int))) = false] (by kernel_rfl) ⟨b81_e0, trivial⟩ ?_
      have h := Option.some.inj h
      subst h
      exact hk
def f25_capture_Sum (n : Nat) (b : List Int) : Option (Int) :=
  (f25_capture_Sum_L3 n b 0 0 0).bind fun w91 =>
  some (bits .or .u32 (IntKind.wrap .u32 (w91.2 * 2 ^ 16)) w91.1)
theorem f25_capture_Sum_ok (n : Nat) (b : List Int) (r : Int) (h : f25_capture_Sum n b = some r) : FnOK Go.Proofs.Try.prog 25 (f25_capture_Sum_in b) (f25_capture_Sum_out r) := by
  unfold f25_capture_Sum at h
  refine At.fn (r := 0) Go.Proofs.Try.func25 rfl (by kernel_rfl) rfl rfl (by kernel_rfl) ?_
  show At Go.Proofs.Try.prog Go.Proofs.Try.f25 0 0 ⟨[(0, .one (.c (.d (.sl (.int .u8) b))))], [], [], 0⟩ _
  refine At.step hm ht ⟨[], [], [], [0], []⟩ 1 ⟨[(0, .one (.c (.d (.sl (.int .u8) b))))], [], [], 0⟩ [] (by kernel_rfl) trivial ?_
  refine At.step hm ht ⟨[], [], [], [0, 3, 4], []⟩ 2 ⟨[(0, .one (.c (.d (.sl (.int .u8) b)))), (3, .one (.c (.d (.int .u32 0)))), (4, .one (.c (.d (.int .u32 0))))], [], [], 0⟩ [] (by kernel_rfl) trivial ?_
  refine At.step hm ht ⟨[], [], [], [0, 3, 4, 5], []⟩ 3 ⟨[(0, .one (.c (.d (.sl (.int .u8) b)))), (3, .one (.c (.d (.int .u32 0)))), (4, .one (.c (.d (.int .u32 0)))), (5, .one (.c (.d (.int .i64 0))))], [], [], 0⟩ [] (by kernel_rfl) trivial ?_
  obtain ⟨w91, cw91, h⟩ := bindS h
  refine f25_capture_Sum_L3_ok n b 0 0 0 w91 cw91 _ ?_
  show At Go.Proofs.Try.prog Go.Proofs.Try.f25 0 10 ⟨[(3, .one (.c (.d (.int .u32 w91.1)))), (4, .one (.c (.d (.int .u32 w91.2))))], [], [], 0⟩ _
  have h := Option.some.inj h
  subst h
  exact At.fin hm ht ⟨[], [], [], [2], []⟩ [(0 : Int) ≤ 16] (by kernel_rfl) ⟨(by decide), trivial⟩
/-! brougham/capture.Encode -/
def f20_capture_Encode_in (l : List (Int × Int × Int × List Int)) : Inn := ⟨[.c (.d (.sl (.pair (.int .i64) (.pair (.int .i64) (.pair (.int .i64) (.slice (.int .u8))))) l))], [], [], 0⟩
def f20_capture_Encode_out (r : List Int × Bool) : Out := ⟨.tup [.c (.own 0 (.int .u8) r.1), .c (.d (.bool r.2))], [(0, ⟨5, 0⟩)], [], 1⟩
def f20_capture_Encode_L6 : Nat → (List Int) → Int → (List (Int × Int × Int × List Int)) → Int → Int → Option (List Int)
  | 0, _, _, _, _, _ => none
  | n + 1, b, last, t18, t19, t20 =>
    if (decide ((t20 : Int) < t19)) = true then
      if (0 : Int) ≤ t20 ∧ t20 < (((t18).length : Nat) : Int) then
      (f79_pack_W (IntKind.wrap .u32 (IntKind.wrap .i64 (((t18.getD t20.toNat (0, (0, (0, [])))).1) - last)))).bind fun r102_0 =>
      (f81_pack_B (IntKind.wrap .u8 (bits .or .i64 (IntKind.wrap .i64 ((((t18.getD t20.toNat (0, (0, (0, [])))).2).1) * 2 ^ 7)) ((((t18.getD t20.toNat (0, (0, (0, [])))).2).2).1)))).bind fun r102_1 =>
      (f80_pack_H (IntKind.wrap .u16 ((((((t18.getD t20.toNat (0, (0, (0, [])))).2).2).2).length : Nat) : Int))).bind fun r102_2 =>
      (f78_pack_Put n b [r102_0, r102_1, r102_2]).bind fun r102_3 =>
      if r102_3.length + ((((t18.getD t20.toNat (0, (0, (0, [])))).2).2).2).length ≤ maxLen ∧ (r102_3.length + ((((t18.getD t20.toNat (0, (0, (0, [])))).2).2).2).length) * 1 ≤ 140737488355328 then
      f20_capture_Encode_L6 n (r102_3 ++ (((t18.getD t20.toNat (0, (0, (0, [])))).2).2).2) ((t18.getD t20.toNat (0, (0, (0, [])))).1) t18 t19 (IntKind.wrap .i64 (t20 + 1))
      else none
      else none
    else
      some (b)
def f20_capture_Encode_L6_k (e : List Int) (o : Out) : Prop := At Go.Proofs.Try.prog Go.Proofs.Try.f20 0 12 ⟨[(4, .one (.c (.own 0 (.int .u8) e)))], [(0, some ⟨5, 0⟩)], [], 1⟩ o
theorem f20_capture_Encode_L6_ok (n : Nat) : ∀ (b : List Int) (last : Int) (t18 : List (Int × Int × Int × List Int)) (t19 : Int) (t20 : Int) (w : List Int) (h : f20_capture_Encode_L6 n b last t18 t19 t20 = some w) (o : Out) (hk : f20_capture_Encode_L6_k w o), At Go.Proofs.Try.prog Go.Proofs.Try.f20 0 6 ⟨[(4, .one (.c (.own 0 (.int .u8) b))), (5, .one (.c (.d (.int .i64 last)))), (18, .one (.c (.d (.sl (.pair (.int .i64) (.pair (.int .i64) (.pair (.int .i64) (.slice (.int .u8))))) t18)))), (19, .one (.c (.d (.int .i64 t19)))), (20, .one (.c (.d (.int .i64 t20))))], [(0, some ⟨5, 0⟩)], [], 1⟩ o := by
  induction n with
  | zero => intro b last t18 t19 t20 w h; rw [f20_capture_Encode_L6] at h; cases h
  | succ n ih =>
    intro b last t18 t19 t20 w h o hk
    rw [f20_capture_Encode_L6] at h
    rcases iteS h with ⟨b100_e0, h⟩ | ⟨b100_e0, h⟩
    · refine At.step hm ht ⟨[], [true], [], [4, 5, 18, 19, 20], [0]⟩ 7 ⟨[(4, .one (.c (.own 0 (.int .u8) b))), (5, .one (.c (.d (.int .i64 last)))), (18, .one (.c (.d (.sl (.pair (.int .i64) (.pair (.int .i64) (.pair (.int .i64) (.slice (.int .u8))))) t18)))), (19, .one (.c (.d (.int .i64 t19)))), (20, .one (.c (.d (.int .i64 t20))))], [(0, some ⟨5, 0⟩)], [], 1⟩ [(decide ((t20 : Int) < t19)) = true] (by kernel_rfl) ⟨b100_e0, trivial⟩ ?_
      obtain ⟨g101_0, h⟩ := ifS h
      refine At.step hm ht ⟨[], [], [], [4, 5, 7, 18, 19, 20], [0, 3]⟩ 8 ⟨[(4, .one (.c (.own 0 (.int .u8) b))), (5, .one (.c (.d (.int .i64 last)))), (7, .one (.c (.ptr 1 0))), (18, .one (.c (.d (.sl (.pair (.int .i64) (.pair (.int .i64) (.pair (.int .i64) (.slice (.int .u8))))) t18)))), (19, .one (.c (.d (.int .i64 t19)))), (20, .one (.c (.d (.int .i64 t20))))], [(0, some ⟨5, 0⟩)], [(1, [.d (.int .i64 ((t18.getD t20.toNat (0, (0, (0, [])))).1)), .d (.int .i64 (((t18.getD t20.toNat (0, (0, (0, [])))).2).1)), .d (.int .i64 ((((t18.getD t20.toNat (0, (0, (0, [])))).2).2).1)), .d (.sl (.int .u8) ((((t18.getD t20.toNat (0, (0, (0, [])))).2).2).2))])], 2⟩ [(0 : Int) ≤ t20 ∧ t20 < (((t18).length : Nat) : Int), 0 + 4 ≤ 4] (by kernel_rfl) ⟨g101_0, (by decide), trivial⟩ ?_
      obtain ⟨r102_0, cr102_0, h⟩ := bindS h
      obtain ⟨r102_1, cr102_1, h⟩ := bindS h
      obtain ⟨r102_2, cr102_2, h⟩ := bindS h
      obtain ⟨r102_3, cr102_3, h⟩ := bindS h
      refine At.step hm ht ⟨[(6, .call [] [] (f79_pack_W_out r102_0)), (14, .call [] [] (f81_pack_B_out r102_1)), (19, .call [] [] (f80_pack_H_out r102_2)), (21, .call [] [] (f78_pack_Put_out r102_3))], [], [], [4, 7, 18, 19, 20], [23, 1]⟩ 9 ⟨[(4, .one (.c (.own 0 (.int .u8) r102_3))), (7, .one (.c (.ptr 1 0))), (18, .one (.c (.d (.sl (.pair (.int .i64) (.pair (.int .i64) (.pair (.int .i64) (.slice (.int .u8))))) t18)))), (19, .one (.c (.d (.int .i64 t19)))), (20, .one (.c (.d (.int .i64 t20))))], [(0, some ⟨5, 0⟩)], [(1, [.d (.int .i64 ((t18.getD t20.toNat (0, (0, (0, [])))).1)), .d (.int .i64 (((t18.getD t20.toNat (0, (0, (0, [])))).2).1)), .d (.int .i64 ((((t18.getD t20.toNat (0, (0, (0, [])))).2).2).1)), .d (.sl (.int .u8) ((((t18.getD t20.toNat (0, (0, (0, [])))).2).2).2))])], 2⟩ [FnOK Go.Proofs.Try.prog 79 (f79_pack_W_in (IntKind.wrap .u32 (IntKind.wrap .i64 (((t18.getD t20.toNat (0, (0, (0, [])))).1) - last)))) (f79_pack_W_out r102_0), (0 : Int) ≤ 7, FnOK Go.Proofs.Try.prog 81 (f81_pack_B_in (IntKind.wrap .u8 (bits .or .i64 (IntKind.wrap .i64 ((((t18.getD t20.toNat (0, (0, (0, [])))).2).1) * 2 ^ 7)) ((((t18.getD t20.toNat (0, (0, (0, [])))).2).2).1)))) (f81_pack_B_out r102_1), FnOK Go.Proofs.Try.prog 80 (f80_pack_H_in (IntKind.wrap .u16 ((((((t18.getD t20.toNat (0, (0, (0, [])))).2).2).2).length : Nat) : Int))) (f80_pack_H_out r102_2), FnOK Go.Proofs.Try.prog 78 (f78_pack_Put_in b [r102_0, r102_1, r102_2]) (f78_pack_Put_out r102_3)] (by kernel_rfl) ⟨(f79_pack_W_ok (IntKind.wrap .u32 (IntKind.wrap .i64 (((t18.getD t20.toNat (0, (0, (0, [])))).1) - last))) r102_0 cr102_0), (by decide), (f81_pack_B_ok (IntKind.wrap .u8 (bits .or .i64 (IntKind.wrap .i64 ((((t18.getD t20.toNat (0, (0, (0, [])))).2).1) * 2 ^ 7)) ((((t18.getD t20.toNat (0, (0, (0, [])))).2).2).1))) r102_1 cr102_1), (f80_pack_H_ok (IntKind.wrap .u16 ((((((t18.getD t20.toNat (0, (0, (0, [])))).2).2).2).length : Nat) : Int)) r102_2 cr102_2), (f78_pack_Put_ok n b [r102_0, r102_1, r102_2] r102_3 cr102_3), trivial⟩ ?_
      obtain ⟨g103_0, h⟩ := ifS h
      refine At.step hm ht ⟨[], [], [], [4, 7, 18, 19, 20], [5, 1]⟩ 10 ⟨[(4, .one (.c (.own 0 (.int .u8) (r102_3 ++ (((t18.getD t20.toNat (0, (0, (0, [])))).2).2).2)))), (7, .one (.c (.ptr 1 0))), (18, .one (.c (.d (.sl (.pair (.int .i64) (.pair (.int .i64) (.pair (.int .i64) (.slice (.int .u8))))) t18)))), (19, .one (.c (.d (.int .i64 t19)))), (20, .one (.c (.d (.int .i64 t20))))], [(0, some ⟨5, 0⟩)], [(1, [.d (.int .i64 ((t18.getD t20.toNat (0, (0, (0, [])))).1)), .d (.int .i64 (((t18.getD t20.toNat (0, (0, (0, [])))).2).1)), .d (.int .i64 ((((t18.getD t20.toNat (0, (0, (0, [])))).2).2).1)), .d (.sl (.int .u8) ((((t18.getD t20.toNat (0, (0, (0, [])))).2).2).2))])], 2⟩ [r102_3.length + ((((t18.getD t20.toNat (0, (0, (0, [])))).2).2).2).length ≤ maxLen ∧ (r102_3.length + ((((t18.getD t20.toNat (0, (0, (0, [])))).2).2).2).length) * 1 ≤ 140737488355328] (by kernel_rfl) ⟨g103_0, trivial⟩ ?_
      refine At.step hm ht ⟨[], [], [], [4, 5, 18, 19, 20], [0]⟩ 11 ⟨[(4, .one (.c (.own 0 (.int .u8) (r102_3 ++ (((t18.getD t20.toNat (0, (0, (0, [])))).2).2).2)))), (5, .one (.c (.d (.int .i64 ((t18.getD t20.toNat (0, (0, (0, [])))).1))))), (18, .one (.c (.d (.sl (.pair (.int .i64) (.pair (.int .i64) (.pair (.int .i64) (.slice (.int .u8))))) t18)))), (19, .one (.c (.d (.int .i64 t19)))), (20, .one (.c (.d (.int .i64 t20))))], [(0, some ⟨5, 0⟩)], [], 1⟩ [] (by kernel_rfl) trivial ?_
      refine At.step hm ht ⟨[], [], [], [4, 5, 18, 19, 20], [0]⟩ 6 ⟨[(4, .one (.c (.own 0 (.int .u8) (r102_3 ++ (((t18.getD t20.toNat (0, (0, (0, [])))).2).2).2)))), (5, .one (.c (.d (.int .i64 ((t18.getD t20.toNat (0, (0, (0, [])))).1))))), (18, .one (.c (.d (.sl (.pair (.int .i64) (.pair (.int .i64) (.pair (.int .i64) (.slice (.int .u8))))) t18)))), (19, .one (.c (.d (.int .i64 t19)))), (20, .one (.c (.d (.int .i64 (IntKind.wrap .i64 (t20 + 1))))))], [(0, some ⟨5, 0⟩)], [], 1⟩ [] (by kernel_rfl) trivial ?_
      exact ih (r102_3 ++ (((t18.getD t20.toNat (0, (0, (0, [])))).2).2).2) ((t18.getD t20.toNat (0, (0, (0, [])))).1) t18 t19 (IntKind.wrap .i64 (t20 + 1)) w h o hk
    · refine At.step hm ht ⟨[], [false], [], [4], [0]⟩ 12 ⟨[(4, .one (.c (.own 0 (.int .u8) b)))], [(0, some ⟨5, 0⟩)], [], 1⟩ [(decide ((t20 : Int) < t19)) = false] (by kernel_rfl) ⟨b100_e0, trivial⟩ ?_
      have h := Option.some.inj h
      subst h
      exact hk
def f20_capture_Encode (n : Nat) (l : List (Int × Int × Int × List Int)) : Option (List Int × Bool) :=
  (f23_capture_Right n l).bind fun r95_0 =>
  if (!r95_0) = true then
    some ([], false)
  else
    (f79_pack_W 1112690517).bind fun r97_0 =>
    (f80_pack_H (IntKind.wrap .u16 ((l.length : Nat) : Int))).bind fun r97_1 =>
    (f78_pack_Put n [] [r97_0, r97_1]).bind fun r97_2 =>
    (f20_capture_Encode_L6 n r97_2 0 l ((l.length : Nat) : Int) 0).bind fun w106 =>
    (f25_capture_Sum n w106).bind fun r108_0 =>
    (f79_pack_W r108_0).bind fun r108_1 =>
    (f78_pack_Put n w106 [r108_1]).bind fun r108_2 =>
    some (r108_2, true)
theorem f20_capture_Encode_ok (n : Nat) (l : List (Int × Int × Int × List Int)) (r : List Int × Bool) (h : f20_capture_Encode n l = some r) : FnOK Go.Proofs.Try.prog 20 (f20_capture_Encode_in l) (f20_capture_Encode_out r) := by
  unfold f20_capture_Encode at h
  refine At.fn (r := 0) Go.Proofs.Try.func20 rfl (by kernel_rfl) rfl rfl (by kernel_rfl) ?_
  show At Go.Proofs.Try.prog Go.Proofs.Try.f20 0 0 ⟨[(0, .one (.c (.d (.sl (.pair (.int .i64) (.pair (.int .i64) (.pair (.int .i64) (.slice (.int .u8))))) l))))], [], [], 0⟩ _
  refine At.step hm ht ⟨[], [], [], [0], []⟩ 1 ⟨[(0, .one (.c (.d (.sl (.pair (.int .i64) (.pair (.int .i64) (.pair (.int .i64) (.slice (.int .u8))))) l))))], [], [], 0⟩ [] (by kernel_rfl) trivial ?_
  obtain ⟨r95_0, cr95_0, h⟩ := bindS h
  rcases iteS h with ⟨b95_e0, h⟩ | ⟨b95_e0, h⟩
  · refine At.step hm ht ⟨[(1, .call [] [] (f23_capture_Right_out r95_0))], [true], [], [], []⟩ 2 ⟨[], [], [], 0⟩ [FnOK Go.Proofs.Try.prog 23 (f23_capture_Right_in l) (f23_capture_Right_out r95_0), (!r95_0) = true] (by kernel_rfl) ⟨(f23_capture_Right_ok n l r95_0 cr95_0), b95_e0, trivial⟩ ?_
    have h := Option.some.inj h
    subst h
    exact At.fin hm ht ⟨[], [], [.nil false 2 0 (.int .u8) (some 5)], [2, 3], [2]⟩ [] (by kernel_rfl) trivial
  · refine At.step hm ht ⟨[(1, .call [] [] (f23_capture_Right_out r95_0))], [false], [], [0], []⟩ 3 ⟨[(0, .one (.c (.d (.sl (.pair (.int .i64) (.pair (.int .i64) (.pair (.int .i64) (.slice (.int .u8))))) l))))], [], [], 0⟩ [FnOK Go.Proofs.Try.prog 23 (f23_capture_Right_in l) (f23_capture_Right_out r95_0), (!r95_0) = false] (by kernel_rfl) ⟨(f23_capture_Right_ok n l r95_0 cr95_0), b95_e0, trivial⟩ ?_
    obtain ⟨r97_0, cr97_0, h⟩ := bindS h
    obtain ⟨r97_1, cr97_1, h⟩ := bindS h
    obtain ⟨r97_2, cr97_2, h⟩ := bindS h
    refine At.step hm ht ⟨[(0, .call [] [] (f79_pack_W_out r97_0)), (4, .call [] [] (f80_pack_H_out r97_1)), (6, .call [] [(0, 0, (.int .u8))] (f78_pack_Put_out r97_2))], [], [], [0, 4], [6]⟩ 4 ⟨[(0, .one (.c (.d (.sl (.pair (.int .i64) (.pair (.int .i64) (.pair (.int .i64) (.slice (.int .u8))))) l)))), (4, .one (.c (.own 0 (.int .u8) r97_2)))], [(0, some ⟨5, 0⟩)], [], 1⟩ [FnOK Go.Proofs.Try.prog 79 (f79_pack_W_in 1112690517) (f79_pack_W_out r97_0), FnOK Go.Proofs.Try.prog 80 (f80_pack_H_in (IntKind.wrap .u16 ((l.length : Nat) : Int))) (f80_pack_H_out r97_1), FnOK Go.Proofs.Try.prog 78 (f78_pack_Put_in [] [r97_0, r97_1]) (f78_pack_Put_out r97_2)] (by kernel_rfl) ⟨(f79_pack_W_ok 1112690517 r97_0 cr97_0), (f80_pack_H_ok (IntKind.wrap .u16 ((l.length : Nat) : Int)) r97_1 cr97_1), (f78_pack_Put_ok n [] [r97_0, r97_1] r97_2 cr97_2), trivial⟩ ?_
    refine At.step hm ht ⟨[], [], [], [0, 4, 5], [0]⟩ 5 ⟨[(0, .one (.c (.d (.sl (.pair (.int .i64) (.pair (.int .i64) (.pair (.int .i64) (.slice (.int .u8))))) l)))), (4, .one (.c (.own 0 (.int .u8) r97_2))), (5, .one (.c (.d (.int .i64 0))))], [(0, some ⟨5, 0⟩)], [], 1⟩ [] (by kernel_rfl) trivial ?_
    refine At.step hm ht ⟨[], [], [], [4, 5, 18, 19, 20], [0]⟩ 6 ⟨[(4, .one (.c (.own 0 (.int .u8) r97_2))), (5, .one (.c (.d (.int .i64 0)))), (18, .one (.c (.d (.sl (.pair (.int .i64) (.pair (.int .i64) (.pair (.int .i64) (.slice (.int .u8))))) l)))), (19, .one (.c (.d (.int .i64 ((l.length : Nat) : Int))))), (20, .one (.c (.d (.int .i64 0))))], [(0, some ⟨5, 0⟩)], [], 1⟩ [] (by kernel_rfl) trivial ?_
    obtain ⟨w106, cw106, h⟩ := bindS h
    refine f20_capture_Encode_L6_ok n r97_2 0 l ((l.length : Nat) : Int) 0 w106 cw106 _ ?_
    show At Go.Proofs.Try.prog Go.Proofs.Try.f20 0 12 ⟨[(4, .one (.c (.own 0 (.int .u8) w106)))], [(0, some ⟨5, 0⟩)], [], 1⟩ _
    obtain ⟨r108_0, cr108_0, h⟩ := bindS h
    obtain ⟨r108_1, cr108_1, h⟩ := bindS h
    obtain ⟨r108_2, cr108_2, h⟩ := bindS h
    have h := Option.some.inj h
    subst h
    exact At.fin hm ht ⟨[(2, .call [] [] (f25_capture_Sum_out r108_0)), (3, .call [] [] (f79_pack_W_out r108_1)), (5, .call [] [] (f78_pack_Put_out r108_2))], [], [], [2, 3], [5]⟩ [FnOK Go.Proofs.Try.prog 25 (f25_capture_Sum_in w106) (f25_capture_Sum_out r108_0), FnOK Go.Proofs.Try.prog 79 (f79_pack_W_in r108_0) (f79_pack_W_out r108_1), FnOK Go.Proofs.Try.prog 78 (f78_pack_Put_in w106 [r108_1]) (f78_pack_Put_out r108_2)] (by kernel_rfl) ⟨(f25_capture_Sum_ok n w106 r108_0 cr108_0), (f79_pack_W_ok r108_0 r108_1 cr108_1), (f78_pack_Put_ok n w106 [r108_1] r108_2 cr108_2), trivial⟩
/-! brougham/broughamlaw34.plain -/
def f22_broughamlaw34_plain_in (l : List (Int × Int × Int × List Int)) : Inn := ⟨[.c (.d (.sl (.pair (.int .i64) (.pair (.int .i64) (.pair (.int .i64) (.slice (.int .u8))))) l))], [], [], 0⟩
def f22_broughamlaw34_plain_out (r : List (Int × Int × Int × ByteArray)) : Out := ⟨.one (.c (.own 0 (.pair (.int .i64) (.pair (.int .i64) (.pair (.int .i64) .str))) r)), [(0, ⟨84, 0⟩)], [], 1⟩
def f22_broughamlaw34_plain_L3 : Nat → (List (Int × Int × Int × List Int)) → (List (Int × Int × Int × ByteArray)) → Int → Option (List (Int × Int × Int × ByteArray))
  | 0, _, _, _ => none
  | n + 1, l, out, i =>
    if (decide ((i : Int) < ((l.length : Nat) : Int))) = true then
      if (0 : Int) ≤ i ∧ i < (((l).length : Nat) : Int) then
      if (0 : Int) ≤ i ∧ i < (((l).length : Nat) : Int) then
      if (0 : Int) ≤ i ∧ i < (((l).length : Nat) : Int) then
      if (0 : Int) ≤ i ∧ i < (((l).length : Nat) : Int) then
      if out.length + [((l.getD i.toNat (0, (0, (0, [])))).1, (((l.getD i.toNat (0, (0, (0, [])))).2).1, ((((l.getD i.toNat (0, (0, (0, [])))).2).2).1, (strOfNums ((((l.getD i.toNat (0, (0, (0, [])))).2).2).2)))))].length ≤ maxLen ∧ (out.length + [((l.getD i.toNat (0, (0, (0, [])))).1, (((l.getD i.toNat (0, (0, (0, [])))).2).1, ((((l.getD i.toNat (0, (0, (0, [])))).2).2).1, (strOfNums ((((l.getD i.toNat (0, (0, (0, [])))).2).2).2)))))].length) * 40 ≤ 140737488355328 then
      f22_broughamlaw34_plain_L3 n l (out ++ [((l.getD i.toNat (0, (0, (0, [])))).1, (((l.getD i.toNat (0, (0, (0, [])))).2).1, ((((l.getD i.toNat (0, (0, (0, [])))).2).2).1, (strOfNums ((((l.getD i.toNat (0, (0, (0, [])))).2).2).2)))))]) (IntKind.wrap .i64 (i + 1))
      else none
      else none
      else none
      else none
      else none
    else
      some (out)
def f22_broughamlaw34_plain_L3_k (e : List (Int × Int × Int × ByteArray)) (o : Out) : Prop := At Go.Proofs.Try.prog Go.Proofs.Try.f22 0 6 ⟨[(3, .one (.c (.own 0 (.pair (.int .i64) (.pair (.int .i64) (.pair (.int .i64) .str))) e)))], [(0, some ⟨84, 0⟩)], [], 1⟩ o
theorem f22_broughamlaw34_plain_L3_ok (n : Nat) : ∀ (l : List (Int × Int × Int × List Int)) (out : List (Int × Int × Int × ByteArray)) (i : Int) (w : List (Int × Int × Int × ByteArray)) (h : f22_broughamlaw34_plain_L3 n l out i = some w) (o : Out) (hk : f22_broughamlaw34_plain_L3_k w o), At Go.Proofs.Try.prog Go.Proofs.Try.f22 0 3 ⟨[(0, .one (.c (.d (.sl (.pair (.int .i64) (.pair (.int .i64) (.pair (.int .i64) (.slice (.int .u8))))) l)))), (3, .one (.c (.own 0 (.pair (.int .i64) (.pair (.int .i64) (.pair (.int .i64) .str))) out))), (4, .one (.c (.d (.int .i64 i))))], [(0, some ⟨84, 0⟩)], [], 1⟩ o := by
  induction n with
  | zero => intro l out i w h; rw [f22_broughamlaw34_plain_L3] at h; cases h
  | succ n ih =>
    intro l out i w h o hk
    rw [f22_broughamlaw34_plain_L3] at h
    rcases iteS h with ⟨b119_e0, h⟩ | ⟨b119_e0, h⟩
    · refine At.step hm ht ⟨[], [true], [], [0, 3, 4], [0]⟩ 5 ⟨[(0, .one (.c (.d (.sl (.pair (.int .i64) (.pair (.int .i64) (.pair (.int .i64) (.slice (.int .u8))))) l)))), (3, .one (.c (.own 0 (.pair (.int .i64) (.pair (.int .i64) (.pair (.int .i64) .str))) out))), (4, .one (.c (.d (.int .i64 i))))], [(0, some ⟨84, 0⟩)], [], 1⟩ [(decide ((i : Int) < ((l.length : Nat) : Int))) = true] (by kernel_rfl) ⟨b119_e0, trivial⟩ ?_
      obtain ⟨g120_0, h⟩ := ifS h
      obtain ⟨g120_1, h⟩ := ifS h
      obtain ⟨g120_2, h⟩ := ifS h
      obtain ⟨g120_3, h⟩ := ifS h
      obtain ⟨g120_4, h⟩ := ifS h
      refine At.step hm ht ⟨[], [], [], [0, 3, 4], [25]⟩ 4 ⟨[(0, .one (.c (.d (.sl (.pair (.int .i64) (.pair (.int .i64) (.pair (.int .i64) (.slice (.int .u8))))) l)))), (3, .one (.c (.own 0 (.pair (.int .i64) (.pair (.int .i64) (.pair (.int .i64) .str))) (out ++ [((l.getD i.toNat (0, (0, (0, [])))).1, (((l.getD i.toNat (0, (0, (0, [])))).2).1, ((((l.getD i.toNat (0, (0, (0, [])))).2).2).1, (strOfNums ((((l.getD i.toNat (0, (0, (0, [])))).2).2).2)))))])))), (4, .one (.c (.d (.int .i64 i))))], [(0, some ⟨84, 0⟩)], [], 1⟩ [(0 : Int) ≤ i ∧ i < (((l).length : Nat) : Int), (0 : Int) ≤ i ∧ i < (((l).length : Nat) : Int), (0 : Int) ≤ i ∧ i < (((l).length : Nat) : Int), (0 : Int) ≤ i ∧ i < (((l).length : Nat) : Int), out.length + [((l.getD i.toNat (0, (0, (0, [])))).1, (((l.getD i.toNat (0, (0, (0, [])))).2).1, ((((l.getD i.toNat (0, (0, (0, [])))).2).2).1, (strOfNums ((((l.getD i.toNat (0, (0, (0, [])))).2).2).2)))))].length ≤ maxLen ∧ (out.length + [((l.getD i.toNat (0, (0, (0, [])))).1, (((l.getD i.toNat (0, (0, (0, [])))).2).1, ((((l.getD i.toNat (0, (0, (0, [])))).2).2).1, (strOfNums ((((l.getD i.toNat (0, (0, (0, [])))).2).2).2)))))].length) * 40 ≤ 140737488355328] (by kernel_rfl) ⟨g120_0, g120_1, g120_2, g120_3, g120_4, trivial⟩ ?_
      refine At.step hm ht ⟨[], [], [], [0, 3, 4], [0]⟩ 3 ⟨[(0, .one (.c (.d (.sl (.pair (.int .i64) (.pair (.int .i64) (.pair (.int .i64) (.slice (.int .u8))))) l)))), (3, .one (.c (.own 0 (.pair (.int .i64) (.pair (.int .i64) (.pair (.int .i64) .str))) (out ++ [((l.getD i.toNat (0, (0, (0, [])))).1, (((l.getD i.toNat (0, (0, (0, [])))).2).1, ((((l.getD i.toNat (0, (0, (0, [])))).2).2).1, (strOfNums ((((l.getD i.toNat (0, (0, (0, [])))).2).2).2)))))])))), (4, .one (.c (.d (.int .i64 (IntKind.wrap .i64 (i + 1))))))], [(0, some ⟨84, 0⟩)], [], 1⟩ [] (by kernel_rfl) trivial ?_
      exact ih l (out ++ [((l.getD i.toNat (0, (0, (0, [])))).1, (((l.getD i.toNat (0, (0, (0, [])))).2).1, ((((l.getD i.toNat (0, (0, (0, [])))).2).2).1, (strOfNums ((((l.getD i.toNat (0, (0, (0, [])))).2).2).2)))))]) (IntKind.wrap .i64 (i + 1)) w h o hk
    · refine At.step hm ht ⟨[], [false], [], [3], [0]⟩ 6 ⟨[(3, .one (.c (.own 0 (.pair (.int .i64) (.pair (.int .i64) (.pair (.int .i64) .str))) out)))], [(0, some ⟨84, 0⟩)], [], 1⟩ [(decide ((i : Int) < ((l.length : Nat) : Int))) = false] (by kernel_rfl) ⟨b119_e0, trivial⟩ ?_
      have h := Option.some.inj h
      subst h
      exact hk
def f22_broughamlaw34_plain (n : Nat) (l : List (Int × Int × Int × List Int)) : Option (List (Int × Int × Int × ByteArray)) :=
  (f22_broughamlaw34_plain_L3 n l [] 0).bind fun w122 =>
  some w122
theorem f22_broughamlaw34_plain_ok (n : Nat) (l : List (Int × Int × Int × List Int)) (r : List (Int × Int × Int × ByteArray)) (h : f22_broughamlaw34_plain n l = some r) : FnOK Go.Proofs.Try.prog 22 (f22_broughamlaw34_plain_in l) (f22_broughamlaw34_plain_out r) := by
  unfold f22_broughamlaw34_plain at h
  refine At.fn (r := 0) Go.Proofs.Try.func22 rfl (by kernel_rfl) rfl rfl (by kernel_rfl) ?_
  show At Go.Proofs.Try.prog Go.Proofs.Try.f22 0 0 ⟨[(0, .one (.c (.d (.sl (.pair (.int .i64) (.pair (.int .i64) (.pair (.int .i64) (.slice (.int .u8))))) l))))], [], [], 0⟩ _
  refine At.step hm ht ⟨[], [], [], [0], []⟩ 1 ⟨[(0, .one (.c (.d (.sl (.pair (.int .i64) (.pair (.int .i64) (.pair (.int .i64) (.slice (.int .u8))))) l))))], [], [], 0⟩ [] (by kernel_rfl) trivial ?_
  refine At.step hm ht ⟨[], [], [], [0, 3], []⟩ 2 ⟨[(0, .one (.c (.d (.sl (.pair (.int .i64) (.pair (.int .i64) (.pair (.int .i64) (.slice (.int .u8))))) l)))), (3, .one (.c (.d (.sl .unit []))))], [], [], 0⟩ [] (by kernel_rfl) trivial ?_
  refine At.step hm ht ⟨[], [], [.nil false 3 0 (.pair (.int .i64) (.pair (.int .i64) (.pair (.int .i64) .str))) (some 84)], [0, 3, 4], [1]⟩ 3 ⟨[(0, .one (.c (.d (.sl (.pair (.int .i64) (.pair (.int .i64) (.pair (.int .i64) (.slice (.int .u8))))) l)))), (3, .one (.c (.own 0 (.pair (.int .i64) (.pair (.int .i64) (.pair (.int .i64) .str))) []))), (4, .one (.c (.d (.int .i64 0))))], [(0, some ⟨84, 0⟩)], [], 1⟩ [] (by kernel_rfl) trivial ?_
  obtain ⟨w122, cw122, h⟩ := bindS h
  refine f22_broughamlaw34_plain_L3_ok n l [] 0 w122 cw122 _ ?_
  show At Go.Proofs.Try.prog Go.Proofs.Try.f22 0 6 ⟨[(3, .one (.c (.own 0 (.pair (.int .i64) (.pair (.int .i64) (.pair (.int .i64) .str))) w122)))], [(0, some ⟨84, 0⟩)], [], 1⟩ _
  have h := Option.some.inj h
  subst h
  exact At.fin hm ht ⟨[], [], [], [2], [0]⟩ [] (by kernel_rfl) trivial
/-! brougham/broughamref34.Right -/
def f24_broughamref34_Right_in (l : List (Int × Int × Int × ByteArray)) : Inn := ⟨[.c (.d (.sl (.pair (.int .i64) (.pair (.int .i64) (.pair (.int .i64) .str))) l))], [], [], 0⟩
def f24_broughamref34_Right_out (r : Bool) : Out := ⟨.one (.c (.d (.bool r))), [], [], 0⟩
def f24_broughamref34_Right_L2 : Nat → (List (Int × Int × Int × ByteArray)) → Int → Option ((Bool) ⊕ (List (Int × Int × Int × ByteArray)))
  | 0, _, _ => none
  | n + 1, l, i =>
    if (decide ((i : Int) < ((l.length : Nat) : Int))) = true then
      if (0 : Int) ≤ i ∧ i < (((l).length : Nat) : Int) then
      if (decide ((((l.getD i.toNat (0, (0, (0, ByteArray.empty)))).1) : Int) < 0)) = true then
        some (.inl false)
      else
        if (decide ((((l.getD i.toNat (0, (0, (0, ByteArray.empty)))).1) : Int) > 2147483647)) = true then
          some (.inl false)
        else
          if (decide ((i : Int) > 0)) = true then
            if (0 : Int) ≤ (IntKind.wrap .i64 (i - 1)) ∧ (IntKind.wrap .i64 (i - 1)) < (((l).length : Nat) : Int) then
            if (decide ((((l.getD i.toNat (0, (0, (0, ByteArray.empty)))).1) : Int) < ((l.getD (IntKind.wrap .i64 (i - 1)).toNat (0, (0, (0, ByteArray.empty)))).1))) = true then
              some (.inl false)
            else
              if (decide (((((l.getD i.toNat (0, (0, (0, ByteArray.empty)))).2).1) : Int) < 0)) = true then
                some (.inl false)
              else
                if (decide (((((l.getD i.toNat (0, (0, (0, ByteArray.empty)))).2).1) : Int) > 1)) = true then
                  some (.inl false)
                else
                  if (decide ((((((l.getD i.toNat (0, (0, (0, ByteArray.empty)))).2).2).1) : Int) < 0)) = true then
                    some (.inl false)
                  else
                    if (decide ((((((l.getD i.toNat (0, (0, (0, ByteArray.empty)))).2).2).1) : Int) > 3)) = true then
                      some (.inl false)
                    else
                      if (decide ((((((((l.getD i.toNat (0, (0, (0, ByteArray.empty)))).2).2).2).size : Nat) : Int) : Int) > 2048)) = true then
                        some (.inl false)
                      else
                        f24_broughamref34_Right_L2 n l (IntKind.wrap .i64 (i + 1))
            else none
          else
            if (decide (((((l.getD i.toNat (0, (0, (0, ByteArray.empty)))).2).1) : Int) < 0)) = true then
              some (.inl false)
            else
              if (decide (((((l.getD i.toNat (0, (0, (0, ByteArray.empty)))).2).1) : Int) > 1)) = true then
                some (.inl false)
              else
                if (decide ((((((l.getD i.toNat (0, (0, (0, ByteArray.empty)))).2).2).1) : Int) < 0)) = true then
                  some (.inl false)
                else
                  if (decide ((((((l.getD i.toNat (0, (0, (0, ByteArray.empty)))).2).2).1) : Int) > 3)) = true then
                    some (.inl false)
                  else
                    if (decide ((((((((l.getD i.toNat (0, (0, (0, ByteArray.empty)))).2).2).2).size : Nat) : Int) : Int) > 2048)) = true then
                      some (.inl false)
                    else
                      f24_broughamref34_Right_L2 n l (IntKind.wrap .i64 (i + 1))
      else none
    else
      some (.inr l)
def f24_broughamref34_Right_L2_k (w : (Bool) ⊕ (List (Int × Int × Int × ByteArray))) (o : Out) : Prop := match w with
  | .inl e => o = f24_broughamref34_Right_out e
  | .inr e => At Go.Proofs.Try.prog Go.Proofs.Try.f24 0 7 ⟨[(0, .one (.c (.d (.sl (.pair (.int .i64) (.pair (.int .i64) (.pair (.int .i64) .str))) e))))], [], [], 0⟩ o
theorem f24_broughamref34_Right_L2_ok (n : Nat) : ∀ (l : List (Int × Int × Int × ByteArray)) (i : Int) (w : (Bool) ⊕ (List (Int × Int × Int × ByteArray))) (h : f24_broughamref34_Right_L2 n l i = some w) (o : Out) (hk : f24_broughamref34_Right_L2_k w o), At Go.Proofs.Try.prog Go.Proofs.Try.f24 0 2 ⟨[(0, .one (.c (.d (.sl (.pair (.int .i64) (.pair (.int .i64) (.pair (.int .i64) .str))) l)))), (3, .one (.c (.d (.int .i64 i))))], [], [], 0⟩ o := by
  induction n with
  | zero => intro l i w h; rw [f24_broughamref34_Right_L2] at h; cases h
  | succ n ih =>
    intro l i w h o hk
    rw [f24_broughamref34_Right_L2] at h
    rcases iteS h with ⟨b129_e0, h⟩ | ⟨b129_e0, h⟩
    · refine At.step hm ht ⟨[], [true], [], [0, 3], []⟩ 4 ⟨[(0, .one (.c (.d (.sl (.pair (.int .i64) (.pair (.int .i64) (.pair (.int .i64) .str))) l)))), (3, .one (.c (.d (.int .i64 i))))], [], [], 0⟩ [(decide ((i : Int) < ((l.length : Nat) : Int))) = true] (by kernel_rfl) ⟨b129_e0, trivial⟩ ?_
      obtain ⟨g130_0, h⟩ := ifS h
      refine At.step hm ht ⟨[], [], [], [0, 3, 4], [4]⟩ 5 ⟨[(0, .one (.c (.d (.sl (.pair (.int .i64) (.pair (.int .i64) (.pair (.int .i64) .str))) l)))), (3, .one (.c (.d (.int .i64 i)))), (4, .one (.c (.ptr 0 0)))], [], [(0, [.d (.int .i64 ((l.getD i.toNat (0, (0, (0, ByteArray.empty)))).1)), .d (.int .i64 (((l.getD i.toNat (0, (0, (0, ByteArray.empty)))).2).1)), .d (.int .i64 ((((l.getD i.toNat (0, (0, (0, ByteArray.empty)))).2).2).1)), .d (.str ((((l.getD i.toNat (0, (0, (0, ByteArray.empty)))).2).2).2))])], 1⟩ [(0 : Int) ≤ i ∧ i < (((l).length : Nat) : Int), 0 + 4 ≤ 4] (by kernel_rfl) ⟨g130_0, (by decide), trivial⟩ ?_
      rcases iteS h with ⟨b131_3, h⟩ | ⟨b131_3, h⟩
      · refine At.step hm ht ⟨[(3, .b true)], [true], [], [], []⟩ 6 ⟨[], [], [], 0⟩ [(decide ((((l.getD i.toNat (0, (0, (0, ByteArray.empty)))).1) : Int) < 0)) = true, true = true] (by kernel_rfl) ⟨b131_3, rfl, trivial⟩ ?_
        have h := Option.some.inj h
        subst h
        have hk : o = f24_broughamref34_Right_out false := hk
        subst hk
        exact At.fin hm ht ⟨[], [], [], [2], []⟩ [] (by kernel_rfl) trivial
      · rcases iteS h with ⟨b131_8, h⟩ | ⟨b131_8, h⟩
        · refine At.step hm ht ⟨[(3, .b false), (8, .b true)], [true], [], [], []⟩ 6 ⟨[], [], [], 0⟩ [(decide ((((l.getD i.toNat (0, (0, (0, ByteArray.empty)))).1) : Int) < 0)) = false, (decide ((((l.getD i.toNat (0, (0, (0, ByteArray.empty)))).1) : Int) > 2147483647)) = true, true = true] (by kernel_rfl) ⟨b131_3, b131_8, rfl, trivial⟩ ?_
          have h := Option.some.inj h
          subst h
          have hk : o = f24_broughamref34_Right_out false := hk
          subst hk
          exact At.fin hm ht ⟨[], [], [], [2], []⟩ [] (by kernel_rfl) trivial
        · rcases iteS h with ⟨b131_11, h⟩ | ⟨b131_11, h⟩
          · obtain ⟨g131_0, h⟩ := ifS h
            rcases iteS h with ⟨b131_23, h⟩ | ⟨b131_23, h⟩
            · refine At.step hm ht ⟨[(3, .b false), (8, .b false), (11, .b true), (23, .b true)], [true], [], [], []⟩ 6 ⟨[], [], [], 0⟩ [(decide ((((l.getD i.toNat (0, (0, (0, ByteArray.empty)))).1) : Int) < 0)) = false, (decide ((((l.getD i.toNat (0, (0, (0, ByteArray.empty)))).1) : Int) > 2147483647)) = false, (decide ((i : Int) > 0)) = true, (0 : Int) ≤ (IntKind.wrap .i64 (i - 1)) ∧ (IntKind.wrap .i64 (i - 1)) < (((l).length : Nat) : Int), (decide ((((l.getD i.toNat (0, (0, (0, ByteArray.empty)))).1) : Int) < ((l.getD (IntKind.wrap .i64 (i - 1)).toNat (0, (0, (0, ByteArray.empty)))).1))) = true, true = true] (by kernel_rfl) ⟨b131_3, b131_8, b131_11, g131_0, b131_23, rfl, trivial⟩ ?_
              have h := Option.some.inj h
              subst h
              have hk : o = f24_broughamref34_Right_out false := hk
              subst hk
              exact At.fin hm ht ⟨[], [], [], [2], []⟩ [] (by kernel_rfl) trivial
            · rcases iteS h with ⟨b131_28, h⟩ | ⟨b131_28, h⟩
              · refine At.step hm ht ⟨[(3, .b false), (8, .b false), (11, .b true), (23, .b false), (28, .b true)], [true], [], [], []⟩ 6 ⟨[], [], [], 0⟩ [(decide ((((l.getD i.toNat (0, (0, (0, ByteArray.empty)))).1) : Int) < 0)) = false, (decide ((((l.getD i.toNat (0, (0, (0, ByteArray.empty)))).1) : Int) > 2147483647)) = false, (decide ((i : Int) > 0)) = true, (0 : Int) ≤ (IntKind.wrap .i64 (i - 1)) ∧ (IntKind.wrap .i64 (i - 1)) < (((l).length : Nat) : Int), (decide ((((l.getD i.toNat (0, (0, (0, ByteArray.empty)))).1) : Int) < ((l.getD (IntKind.wrap .i64 (i - 1)).toNat (0, (0, (0, ByteArray.empty)))).1))) = false, (decide (((((l.getD i.toNat (0, (0, (0, ByteArray.empty)))).2).1) : Int) < 0)) = true, true = true] (by kernel_rfl) ⟨b131_3, b131_8, b131_11, g131_0, b131_23, b131_28, rfl, trivial⟩ ?_
                have h := Option.some.inj h
                subst h
                have hk : o = f24_broughamref34_Right_out false := hk
                subst hk
                exact At.fin hm ht ⟨[], [], [], [2], []⟩ [] (by kernel_rfl) trivial
              · rcases iteS h with ⟨b131_33, h⟩ | ⟨b131_33, h⟩
                · refine At.step hm ht ⟨[(3, .b false), (8, .b false), (11, .b true), (23, .b false), (28, .b false), (33, .b true)], [true], [], [], []⟩ 6 ⟨[], [], [], 0⟩ [(decide ((((l.getD i.toNat (0, (0, (0, ByteArray.empty)))).1) : Int) < 0)) = false, (decide ((((l.getD i.toNat (0, (0, (0, ByteArray.empty)))).1) : Int) > 2147483647)) = false, (decide ((i : Int) > 0)) = true, (0 : Int) ≤ (IntKind.wrap .i64 (i - 1)) ∧ (IntKind.wrap .i64 (i - 1)) < (((l).length : Nat) : Int), (decide ((((l.getD i.toNat (0, (0, (0, ByteArray.empty)))).1) : Int) < ((l.getD (IntKind.wrap .i64 (i - 1)).toNat (0, (0, (0, ByteArray.empty)))).1))) = false, (decide (((((l.getD i.toNat (0, (0, (0, ByteArray.empty)))).2).1) : Int) < 0)) = false, (decide (((((l.getD i.toNat (0, (0, (0, ByteArray.empty)))).2).1) : Int) > 1)) = true, true = true] (by kernel_rfl) ⟨b131_3, b131_8, b131_11, g131_0, b131_23, b131_28, b131_33, rfl, trivial⟩ ?_
                  have h := Option.some.inj h
                  subst h
                  have hk : o = f24_broughamref34_Right_out false := hk
                  subst hk
                  exact At.fin hm ht ⟨[], [], [], [2], []⟩ [] (by kernel_rfl) trivial
                · rcases iteS h with ⟨b131_38, h⟩ | ⟨b131_38, h⟩
                  · refine At.step hm ht ⟨[(3, .b false), (8, .b false), (11, .b true), (23, .b false), (28, .b false), (33, .b false), (38, .b true)], [true], [], [], []⟩ 6 ⟨[], [], [], 0⟩ [(decide ((((l.getD i.toNat (0, (0, (0, ByteArray.empty)))).1) : Int) < 0)) = false, (decide ((((l.getD i.toNat (0, (0, (0, ByteArray.empty)))).1) : Int) > 2147483647)) = false, (decide ((i : Int) > 0)) = true, (0 : Int) ≤ (IntKind.wrap .i64 (i - 1)) ∧ (IntKind.wrap .i64 (i - 1)) < (((l).length : Nat) : Int), (decide ((((l.getD i.toNat (0, (0, (0, ByteArray.empty)))).1) : Int) < ((l.getD (IntKind.wrap .i64 (i - 1)).toNat (0, (0, (0, ByteArray.empty)))).1))) = false, (decide (((((l.getD i.toNat (0, (0, (0, ByteArray.empty)))).2).1) : Int) < 0)) = false, (decide (((((l.getD i.toNat (0, (0, (0, ByteArray.empty)))).2).1) : Int) > 1)) = false, (decide ((((((l.getD i.toNat (0, (0, (0, ByteArray.empty)))).2).2).1) : Int) < 0)) = true, true = true] (by kernel_rfl) ⟨b131_3, b131_8, b131_11, g131_0, b131_23, b131_28, b131_33, b131_38, rfl, trivial⟩ ?_
                    have h := Option.some.inj h
                    subst h
                    have hk : o = f24_broughamref34_Right_out false := hk
                    subst hk
                    exact At.fin hm ht ⟨[], [], [], [2], []⟩ [] (by kernel_rfl) trivial
                  · rcases iteS h with ⟨b131_43, h⟩ | ⟨b131_43, h⟩
                    · refine At.step hm ht ⟨[(3, .b false), (8, .b false), (11, .b true), (23, .b false), (28, .b false), (33, .b false), (38, .b false), (43, .b true)], [true], [], [], []⟩ 6 ⟨[], [], [], 0⟩ [(decide ((((l.getD i.toNat (0, (0, (0, ByteArray.empty)))).1) : Int) < 0)) = false, (decide ((((l.getD i.toNat (0, (0, (0, ByteArray.empty)))).1) : Int) > 2147483647)) = false, (decide ((i : Int) > 0)) = true, (0 : Int) ≤ (IntKind.wrap .i64 (i - 1)) ∧ (IntKind.wrap .i64 (i - 1)) < (((l).length : Nat) : Int), (decide ((((l.getD i.toNat (0, (0, (0, ByteArray.empty)))).1) : Int) < ((l.getD (IntKind.wrap .i64 (i - 1)).toNat (0, (0, (0, ByteArray.empty)))).1))) = false, (decide (((((l.getD i.toNat (0, (0, (0, ByteArray.empty)))).2).1) : Int) < 0)) = false, (decide (((((l.getD i.toNat (0, (0, (0, ByteArray.empty)))).2).1) : Int) > 1)) = false, (decide ((((((l.getD i.toNat (0, (0, (0, ByteArray.empty)))).2).2).1) : Int) < 0)) = false, (decide ((((((l.getD i.toNat (0, (0, (0, ByteArray.empty)))).2).2).1) : Int) > 3)) = true, true = true] (by kernel_rfl) ⟨b131_3, b131_8, b131_11, g131_0, b131_23, b131_28, b131_33, b131_38, b131_43, rfl, trivial⟩ ?_
                      have h := Option.some.inj h
                      subst h
                      have hk : o = f24_broughamref34_Right_out false := hk
                      subst hk
                      exact At.fin hm ht ⟨[], [], [], [2], []⟩ [] (by kernel_rfl) trivial
                    · rcases iteS h with ⟨b131_e0, h⟩ | ⟨b131_e0, h⟩
                      · refine At.step hm ht ⟨[(3, .b false), (8, .b false), (11, .b true), (23, .b false), (28, .b false), (33, .b false), (38, .b false), (43, .b false)], [true], [], [], []⟩ 6 ⟨[], [], [], 0⟩ [(decide ((((l.getD i.toNat (0, (0, (0, ByteArray.empty)))).1) : Int) < 0)) = false, (decide ((((l.getD i.toNat (0, (0, (0, ByteArray.empty)))).1) : Int) > 2147483647)) = false, (decide ((i : Int) > 0)) = true, (0 : Int) ≤ (IntKind.wrap .i64 (i - 1)) ∧ (IntKind.wrap .i64 (i - 1)) < (((l).length : Nat) : Int), (decide ((((l.getD i.toNat (0, (0, (0, ByteArray.empty)))).1) : Int) < ((l.getD (IntKind.wrap .i64 (i - 1)).toNat (0, (0, (0, ByteArray.empty)))).1))) = false, (decide (((((l.getD i.toNat (0, (0, (0, ByteArray.empty)))).2).1) : Int) < 0)) = false, (decide (((((l.getD i.toNat (0, (0, (0, ByteArray.empty)))).2).1) : Int) > 1)) = false, (decide ((((((l.getD i.toNat (0, (0, (0, ByteArray.empty)))).2).2).1) : Int) < 0)) = false, (decide ((((((l.getD i.toNat (0, (0, (0, ByteArray.empty)))).2).2).1) : Int) > 3)) = false, (decide ((((((((l.getD i.toNat (0, (0, (0, ByteArray.empty)))).2).2).2).size : Nat) : Int) : Int) > 2048)) = true] (by kernel_rfl) ⟨b131_3, b131_8, b131_11, g131_0, b131_23, b131_28, b131_33, b131_38, b131_43, b131_e0, trivial⟩ ?_
                        have h := Option.some.inj h
                        subst h
                        have hk : o = f24_broughamref34_Right_out false := hk
                        subst hk
                        exact At.fin hm ht ⟨[], [], [], [2], []⟩ [] (by kernel_rfl) trivial
                      · refine At.step hm ht ⟨[(3, .b false), (8, .b false), (11, .b true), (23, .b false), (28, .b false), (33, .b false), (38, .b false), (43, .b false)], [false], [], [0, 3], []⟩ 3 ⟨[(0, .one (.c (.d (.sl (.pair (.int .i64) (.pair (.int .i64) (.pair (.int .i64) .str))) l)))), (3, .one (.c (.d (.int .i64 i))))], [], [], 0⟩ [(decide ((((l.getD i.toNat (0, (0, (0, ByteArray.empty)))).1) : Int) < 0)) = false, (decide ((((l.getD i.toNat (0, (0, (0, ByteArray.empty)))).1) : Int) > 2147483647)) = false, (decide ((i : Int) > 0)) = true, (0 : Int) ≤ (IntKind.wrap .i64 (i - 1)) ∧ (IntKind.wrap .i64 (i - 1)) < (((l).length : Nat) : Int), (decide ((((l.getD i.toNat (0, (0, (0, ByteArray.empty)))).1) : Int) < ((l.getD (IntKind.wrap .i64 (i - 1)).toNat (0, (0, (0, ByteArray.empty)))).1))) = false, (decide (((((l.getD i.toNat (0, (0, (0, ByteArray.empty)))).2).1) : Int) < 0)) = false, (decide (((((l.getD i.toNat (0, (0, (0, ByteArray.empty)))).2).1) : Int) > 1)) = false, (decide ((((((l.getD i.toNat (0, (0, (0, ByteArray.empty)))).2).2).1) : Int) < 0)) = false, (decide ((((((l.getD i.toNat (0, (0, (0, ByteArray.empty)))).2).2).1) : Int) > 3)) = false, (decide ((((((((l.getD i.toNat (0, (0, (0, ByteArray.empty)))).2).2).2).size : Nat) : Int) : Int) > 2048)) = false] (by kernel_rfl) ⟨b131_3, b131_8, b131_11, g131_0, b131_23, b131_28, b131_33, b131_38, b131_43, b131_e0, trivial⟩ ?_
                        refine At.step hm ht ⟨[], [], [], [0, 3], []⟩ 2 ⟨[(0, .one (.c (.d (.sl (.pair (.int .i64) (.pair (.int .i64) (.pair (.int .i64) .str))) l)))), (3, .one (.c (.d (.int .i64 (IntKind.wrap .i64 (i + 1))))))], [], [], 0⟩ [] (by kernel_rfl) trivial ?_
                        exact ih l (IntKind.wrap .i64 (i + 1)) w h o hk
          · rcases iteS h with ⟨b131_28, h⟩ | ⟨b131_28, h⟩
            · refine At.step hm ht ⟨[(3, .b false), (8, .b false), (11, .b false), (28, .b true)], [true], [], [], []⟩ 6 ⟨[], [], [], 0⟩ [(decide ((((l.getD i.toNat (0, (0, (0, ByteArray.empty)))).1) : Int) < 0)) = false, (decide ((((l.getD i.toNat (0, (0, (0, ByteArray.empty)))).1) : Int) > 2147483647)) = false, (decide ((i : Int) > 0)) = false, (decide (((((l.getD i.toNat (0, (0, (0, ByteArray.empty)))).2).1) : Int) < 0)) = true, true = true] (by kernel_rfl) ⟨b131_3, b131_8, b131_11, b131_28, rfl, trivial⟩ ?_
              have h := Option.some.inj h
              subst h
              have hk : o = f24_broughamref34_Right_out false := hk
              subst hk
              exact At.fin hm ht ⟨[], [], [], [2], []⟩ [] (by kernel_rfl) trivial
            · rcases iteS h with ⟨b131_33, h⟩ | ⟨b131_33, h⟩
              · refine At.step hm ht ⟨[(3, .b false), (8, .b false), (11, .b false), (28, .b false), (33, .b true)], [true], [], [], []⟩ 6 ⟨[], [], [], 0⟩ [(decide ((((l.getD i.toNat (0, (0, (0, ByteArray.empty)))).1) : Int) < 0)) = false, (decide ((((l.getD i.toNat (0, (0, (0, ByteArray.empty)))).1) : Int) > 2147483647)) = false, (decide ((i : Int) > 0)) = false, (decide (((((l.getD i.toNat (0, (0, (0, ByteArray.empty)))).2).1) : Int) < 0)) = false, (decide (((((l.getD i.toNat (0, (0, (0, ByteArray.empty)))).2).1) : Int) > 1)) = true, true = true] (by kernel_rfl) ⟨b131_3, b131_8, b131_11, b131_28, b131_33, rfl, trivial⟩ ?_
                have h := Option.some.inj h
                subst h
                have hk : o = f24_broughamref34_Right_out false := hk
                subst hk
                exact At.fin hm ht ⟨[], [], [], [2], []⟩ [] (by kernel_rfl) trivial
              · rcases iteS h with ⟨b131_38, h⟩ | ⟨b131_38, h⟩
                · refine At.step hm ht ⟨[(3, .b false), (8, .b false), (11, .b false), (28, .b false), (33, .b false), (38, .b true)], [true], [], [], []⟩ 6 ⟨[], [], [], 0⟩ [(decide ((((l.getD i.toNat (0, (0, (0, ByteArray.empty)))).1) : Int) < 0)) = false, (decide ((((l.getD i.toNat (0, (0, (0, ByteArray.empty)))).1) : Int) > 2147483647)) = false, (decide ((i : Int) > 0)) = false, (decide (((((l.getD i.toNat (0, (0, (0, ByteArray.empty)))).2).1) : Int) < 0)) = false, (decide (((((l.getD i.toNat (0, (0, (0, ByteArray.empty)))).2).1) : Int) > 1)) = false, (decide ((((((l.getD i.toNat (0, (0, (0, ByteArray.empty)))).2).2).1) : Int) < 0)) = true, true = true] (by kernel_rfl) ⟨b131_3, b131_8, b131_11, b131_28, b131_33, b131_38, rfl, trivial⟩ ?_
                  have h := Option.some.inj h
                  subst h
                  have hk : o = f24_broughamref34_Right_out false := hk
                  subst hk
                  exact At.fin hm ht ⟨[], [], [], [2], []⟩ [] (by kernel_rfl) trivial
                · rcases iteS h with ⟨b131_43, h⟩ | ⟨b131_43, h⟩
                  · refine At.step hm ht ⟨[(3, .b false), (8, .b false), (11, .b false), (28, .b false), (33, .b false), (38, .b false), (43, .b true)], [true], [], [], []⟩ 6 ⟨[], [], [], 0⟩ [(decide ((((l.getD i.toNat (0, (0, (0, ByteArray.empty)))).1) : Int) < 0)) = false, (decide ((((l.getD i.toNat (0, (0, (0, ByteArray.empty)))).1) : Int) > 2147483647)) = false, (decide ((i : Int) > 0)) = false, (decide (((((l.getD i.toNat (0, (0, (0, ByteArray.empty)))).2).1) : Int) < 0)) = false, (decide (((((l.getD i.toNat (0, (0, (0, ByteArray.empty)))).2).1) : Int) > 1)) = false, (decide ((((((l.getD i.toNat (0, (0, (0, ByteArray.empty)))).2).2).1) : Int) < 0)) = false, (decide ((((((l.getD i.toNat (0, (0, (0, ByteArray.empty)))).2).2).1) : Int) > 3)) = true, true = true] (by kernel_rfl) ⟨b131_3, b131_8, b131_11, b131_28, b131_33, b131_38, b131_43, rfl, trivial⟩ ?_
                    have h := Option.some.inj h
                    subst h
                    have hk : o = f24_broughamref34_Right_out false := hk
                    subst hk
                    exact At.fin hm ht ⟨[], [], [], [2], []⟩ [] (by kernel_rfl) trivial
                  · rcases iteS h with ⟨b131_e0, h⟩ | ⟨b131_e0, h⟩
                    · refine At.step hm ht ⟨[(3, .b false), (8, .b false), (11, .b false), (28, .b false), (33, .b false), (38, .b false), (43, .b false)], [true], [], [], []⟩ 6 ⟨[], [], [], 0⟩ [(decide ((((l.getD i.toNat (0, (0, (0, ByteArray.empty)))).1) : Int) < 0)) = false, (decide ((((l.getD i.toNat (0, (0, (0, ByteArray.empty)))).1) : Int) > 2147483647)) = false, (decide ((i : Int) > 0)) = false, (decide (((((l.getD i.toNat (0, (0, (0, ByteArray.empty)))).2).1) : Int) < 0)) = false, (decide (((((l.getD i.toNat (0, (0, (0, ByteArray.empty)))).2).1) : Int) > 1)) = false, (decide ((((((l.getD i.toNat (0, (0, (0, ByteArray.empty)))).2).2).1) : Int) < 0)) = false, (decide ((((((l.getD i.toNat (0, (0, (0, ByteArray.empty)))).2).2).1) : Int) > 3)) = false, (decide ((((((((l.getD i.toNat (0, (0, (0, ByteArray.empty)))).2).2).2).size : Nat) : Int) : Int) > 2048)) = true] (by kernel_rfl) ⟨b131_3, b131_8, b131_11, b131_28, b131_33, b131_38, b131_43, b131_e0, trivial⟩ ?_
                      have h := Option.some.inj h
                      subst h
                      have hk : o = f24_broughamref34_Right_out false := hk
                      subst hk
                      exact At.fin hm ht ⟨[], [], [], [2], []⟩ [] (by kernel_rfl) trivial
                    · refine At.step hm ht ⟨[(3, .b false), (8, .b false), (11, .b false), (28, .b false), (33, .b false), (38, .b false), (43, .b false)], [false], [], [0, 3], []⟩ 3 ⟨[(0, .one (.c (.d (.sl (.pair (.int .i64) (.pair (.int .i64) (.pair (.int .i64) .str))) l)))), (3, .one (.c (.d (.int .i64 i))))], [], [], 0⟩ [(decide ((((l.getD i.toNat (0, (0, (0, ByteArray.empty)))).1) : Int) < 0)) = false, (decide ((((l.getD i.toNat (0, (0, (0, ByteArray.empty)))).1) : Int) > 2147483647)) = false, (decide ((i : Int) > 0)) = false, (decide (((((l.getD i.toNat (0, (0, (0, ByteArray.empty)))).2).1) : Int) < 0)) = false, (decide (((((l.getD i.toNat (0, (0, (0, ByteArray.empty)))).2).1) : Int) > 1)) = false, (decide ((((((l.getD i.toNat (0, (0, (0, ByteArray.empty)))).2).2).1) : Int) < 0)) = false, (decide ((((((l.getD i.toNat (0, (0, (0, ByteArray.empty)))).2).2).1) : Int) > 3)) = false, (decide ((((((((l.getD i.toNat (0, (0, (0, ByteArray.empty)))).2).2).2).size : Nat) : Int) : Int) > 2048)) = false] (by kernel_rfl) ⟨b131_3, b131_8, b131_11, b131_28, b131_33, b131_38, b131_43, b131_e0, trivial⟩ ?_
                      refine At.step hm ht ⟨[], [], [], [0, 3], []⟩ 2 ⟨[(0, .one (.c (.d (.sl (.pair (.int .i64) (.pair (.int .i64) (.pair (.int .i64) .str))) l)))), (3, .one (.c (.d (.int .i64 (IntKind.wrap .i64 (i + 1))))))], [], [], 0⟩ [] (by kernel_rfl) trivial ?_
                      exact ih l (IntKind.wrap .i64 (i + 1)) w h o hk
    · refine At.step hm ht ⟨[], [false], [], [0], []⟩ 7 ⟨[(0, .one (.c (.d (.sl (.pair (.int .i64) (.pair (.int .i64) (.pair (.int .i64) .str))) l))))], [], [], 0⟩ [(decide ((i : Int) < ((l.length : Nat) : Int))) = false] (by kernel_rfl) ⟨b129_e0, trivial⟩ ?_
      have h := Option.some.inj h
      subst h
      exact hk
def f24_broughamref34_Right (n : Nat) (l : List (Int × Int × Int × ByteArray)) : Option (Bool) :=
  (f24_broughamref34_Right_L2 n l 0).bind fun w147 =>
  match w147 with
  | .inl e148 =>
    some e148
  | .inr e149 =>
    some (decide ((((e149.length : Nat) : Int) : Int) ≤ 1024))
theorem f24_broughamref34_Right_ok (n : Nat) (l : List (Int × Int × Int × ByteArray)) (r : Bool) (h : f24_broughamref34_Right n l = some r) : FnOK Go.Proofs.Try.prog 24 (f24_broughamref34_Right_in l) (f24_broughamref34_Right_out r) := by
  unfold f24_broughamref34_Right at h
  refine At.fn (r := 0) Go.Proofs.Try.func24 rfl (by kernel_rfl) rfl rfl (by kernel_rfl) ?_
  show At Go.Proofs.Try.prog Go.Proofs.Try.f24 0 0 ⟨[(0, .one (.c (.d (.sl (.pair (.int .i64) (.pair (.int .i64) (.pair (.int .i64) .str))) l))))], [], [], 0⟩ _
  refine At.step hm ht ⟨[], [], [], [0], []⟩ 1 ⟨[(0, .one (.c (.d (.sl (.pair (.int .i64) (.pair (.int .i64) (.pair (.int .i64) .str))) l))))], [], [], 0⟩ [] (by kernel_rfl) trivial ?_
  refine At.step hm ht ⟨[], [], [], [0, 3], []⟩ 2 ⟨[(0, .one (.c (.d (.sl (.pair (.int .i64) (.pair (.int .i64) (.pair (.int .i64) .str))) l)))), (3, .one (.c (.d (.int .i64 0))))], [], [], 0⟩ [] (by kernel_rfl) trivial ?_
  obtain ⟨w147, cw147, h⟩ := bindS h
  refine f24_broughamref34_Right_L2_ok n l 0 w147 cw147 _ ?_
  rcases w147 with e148 | e149
  · have h := Option.some.inj h
    subst h
    rfl
  · show At Go.Proofs.Try.prog Go.Proofs.Try.f24 0 7 ⟨[(0, .one (.c (.d (.sl (.pair (.int .i64) (.pair (.int .i64) (.pair (.int .i64) .str))) e149))))], [], [], 0⟩ _
    have h := Option.some.inj h
    subst h
    exact At.fin hm ht ⟨[], [], [], [2], []⟩ [] (by kernel_rfl) trivial
/-! brougham/broughamref02.Put -/
def f82_broughamref02_Put_in (n_ : Int) (bytes : Int) : Inn := ⟨[.c (.d (.sl .unit [])), .c (.d (.int .u64 n_)), .c (.d (.int .i64 bytes))], [], [], 0⟩
def f82_broughamref02_Put_out (r : List Int) : Out := ⟨.one (.c (.own 0 (.int .u8) r)), [(0, ⟨5, 0⟩)], [], 1⟩
def f82_broughamref02_Put : Nat → Int → Int → Option (List Int)
  | 0, _, _ => none
  | n + 1, n_, bytes =>
    if (decide ((bytes : Int) < 1)) = true then
      some []
    else
      if (decide ((bytes : Int) > 8)) = true then
        some []
      else
        (f82_broughamref02_Put n (IntKind.wrap .u64 (Int.tdiv n_ 256)) (IntKind.wrap .i64 (bytes - 1))).bind fun r169_0 =>
        if r169_0.length + [(IntKind.wrap .u8 (Int.tmod n_ 256))].length ≤ maxLen ∧ (r169_0.length + [(IntKind.wrap .u8 (Int.tmod n_ 256))].length) * 1 ≤ 140737488355328 then
        some (r169_0 ++ [(IntKind.wrap .u8 (Int.tmod n_ 256))])
        else none
theorem f82_broughamref02_Put_ok (n : Nat) : ∀ (n_ : Int) (bytes : Int) (r : List Int) (h : f82_broughamref02_Put n n_ bytes = some r), FnOK Go.Proofs.Try.prog 82 (f82_broughamref02_Put_in n_ bytes) (f82_broughamref02_Put_out r) := by
  induction n with
  | zero => intro n_ bytes r h; rw [f82_broughamref02_Put] at h; cases h
  | succ n ih =>
    intro n_ bytes r h
    rw [f82_broughamref02_Put] at h
    refine At.fn (r := 0) Go.Proofs.Try.func82 rfl (by kernel_rfl) rfl rfl (by kernel_rfl) ?_
    show At Go.Proofs.Try.prog Go.Proofs.Try.f82 0 0 ⟨[(0, .one (.c (.d (.sl .unit [])))), (1, .one (.c (.d (.int .u64 n_)))), (2, .one (.c (.d (.int .i64 bytes))))], [], [], 0⟩ _
    refine At.step hm ht ⟨[], [], [], [0, 1, 2], []⟩ 1 ⟨[(0, .one (.c (.d (.sl .unit [])))), (1, .one (.c (.d (.int .u64 n_)))), (2, .one (.c (.d (.int .i64 bytes))))], [], [], 0⟩ [] (by kernel_rfl) trivial ?_
    rcases iteS h with ⟨b166_2, h⟩ | ⟨b166_2, h⟩
    · refine At.step hm ht ⟨[(2, .b true)], [true], [], [0], []⟩ 2 ⟨[(0, .one (.c (.d (.sl .unit []))))], [], [], 0⟩ [(decide ((bytes : Int) < 1)) = true, true = true] (by kernel_rfl) ⟨b166_2, rfl, trivial⟩ ?_
      have h := Option.some.inj h
      subst h
      exact At.fin hm ht ⟨[], [], [.nil false 6 0 (.int .u8) (some 5)], [6], [2]⟩ [] (by kernel_rfl) trivial
    · rcases iteS h with ⟨b166_e0, h⟩ | ⟨b166_e0, h⟩
      · refine At.step hm ht ⟨[(2, .b false)], [true], [], [0], []⟩ 2 ⟨[(0, .one (.c (.d (.sl .unit []))))], [], [], 0⟩ [(decide ((bytes : Int) < 1)) = false, (decide ((bytes : Int) > 8)) = true] (by kernel_rfl) ⟨b166_2, b166_e0, trivial⟩ ?_
        have h := Option.some.inj h
        subst h
        exact At.fin hm ht ⟨[], [], [.nil false 6 0 (.int .u8) (some 5)], [6], [2]⟩ [] (by kernel_rfl) trivial
      · refine At.step hm ht ⟨[(2, .b false)], [false], [], [0, 1, 2], []⟩ 3 ⟨[(0, .one (.c (.d (.sl .unit [])))), (1, .one (.c (.d (.int .u64 n_)))), (2, .one (.c (.d (.int .i64 bytes))))], [], [], 0⟩ [(decide ((bytes : Int) < 1)) = false, (decide ((bytes : Int) > 8)) = false] (by kernel_rfl) ⟨b166_2, b166_e0, trivial⟩ ?_
        obtain ⟨r169_0, cr169_0, h⟩ := bindS h
        refine At.step hm ht ⟨[(5, .call [] [] (f82_broughamref02_Put_out r169_0))], [], [], [0, 1], [5]⟩ 4 ⟨[(0, .one (.c (.own 0 (.int .u8) r169_0))), (1, .one (.c (.d (.int .u64 n_))))], [(0, some ⟨5, 0⟩)], [], 1⟩ [(256 : Int) ≠ 0, FnOK Go.Proofs.Try.prog 82 (f82_broughamref02_Put_in (IntKind.wrap .u64 (Int.tdiv n_ 256)) (IntKind.wrap .i64 (bytes - 1))) (f82_broughamref02_Put_out r169_0)] (by kernel_rfl) ⟨(by decide), (ih (IntKind.wrap .u64 (Int.tdiv n_ 256)) (IntKind.wrap .i64 (bytes - 1)) r169_0 cr169_0), trivial⟩ ?_
        obtain ⟨g170_0, h⟩ := ifS h
        have h := Option.some.inj h
        subst h
        exact At.fin hm ht ⟨[], [], [], [6], [6]⟩ [(256 : Int) ≠ 0, r169_0.length + [(IntKind.wrap .u8 (Int.tmod n_ 256))].length ≤ maxLen ∧ (r169_0.length + [(IntKind.wrap .u8 (Int.tmod n_ 256))].length) * 1 ≤ 140737488355328] (by kernel_rfl) ⟨(by decide), g170_0, trivial⟩
/-! brougham/broughamref02.Put -/
def f82_broughamref02_Put_v2_in (b : List Int) (n_ : Int) (bytes : Int) : Inn := ⟨[.c (.own 0 (.int .u8) b), .c (.d (.int .u64 n_)), .c (.d (.int .i64 bytes))], [(0, ⟨5, 0⟩)], [], 1⟩
def f82_broughamref02_Put_v2_out (r : List Int) : Out := ⟨.one (.c (.own 1 (.int .u8) r)), [(1, ⟨5, 0⟩)], [], 2⟩
def f82_broughamref02_Put_v2 : Nat → (List Int) → Int → Int → Option (List Int)
  | 0, _, _, _ => none
  | n + 1, b, n_, bytes =>
    if (decide ((bytes : Int) < 1)) = true then
      some b
    else
      if (decide ((bytes : Int) > 8)) = true then
        some b
      else
        (f82_broughamref02_Put_v2 n b (IntKind.wrap .u64 (Int.tdiv n_ 256)) (IntKind.wrap .i64 (bytes - 1))).bind fun r181_0 =>
        if r181_0.length + [(IntKind.wrap .u8 (Int.tmod n_ 256))].length ≤ maxLen ∧ (r181_0.length + [(IntKind.wrap .u8 (Int.tmod n_ 256))].length) * 1 ≤ 140737488355328 then
        some (r181_0 ++ [(IntKind.wrap .u8 (Int.tmod n_ 256))])
        else none
theorem f82_broughamref02_Put_v2_ok (n : Nat) : ∀ (b : List Int) (n_ : Int) (bytes : Int) (r : List Int) (h : f82_broughamref02_Put_v2 n b n_ bytes = some r), FnOK Go.Proofs.Try.prog 82 (f82_broughamref02_Put_v2_in b n_ bytes) (f82_broughamref02_Put_v2_out r) := by
  induction n with
  | zero => intro b n_ bytes r h; rw [f82_broughamref02_Put_v2] at h; cases h
  | succ n ih =>
    intro b n_ bytes r h
    rw [f82_broughamref02_Put_v2] at h
    refine At.fn (r := 0) Go.Proofs.Try.func82 rfl (by kernel_rfl) rfl rfl (by kernel_rfl) ?_
    show At Go.Proofs.Try.prog Go.Proofs.Try.f82 1 0 ⟨[(0, .one (.c (.own 0 (.int .u8) b))), (1, .one (.c (.d (.int .u64 n_)))), (2, .one (.c (.d (.int .i64 bytes))))], [(0, some ⟨5, 0⟩)], [], 1⟩ _
    refine At.step hm ht ⟨[], [], [], [0, 1, 2], [0]⟩ 1 ⟨[(0, .one (.c (.own 0 (.int .u8) b))), (1, .one (.c (.d (.int .u64 n_)))), (2, .one (.c (.d (.int .i64 bytes))))], [(0, some ⟨5, 0⟩)], [], 1⟩ [] (by kernel_rfl) trivial ?_
    rcases iteS h with ⟨b178_2, h⟩ | ⟨b178_2, h⟩
    · refine At.step hm ht ⟨[(2, .b true)], [true], [], [0], [0]⟩ 2 ⟨[(0, .one (.c (.own 0 (.int .u8) b)))], [(0, some ⟨5, 0⟩)], [], 1⟩ [(decide ((bytes : Int) < 1)) = true, true = true] (by kernel_rfl) ⟨b178_2, rfl, trivial⟩ ?_
      have h := Option.some.inj h
      subst h
      exact At.fin hm ht ⟨[], [], [.mv 0 6 0], [6], [0, 3]⟩ [] (by kernel_rfl) trivial
    · rcases iteS h with ⟨b178_e0, h⟩ | ⟨b178_e0, h⟩
      · refine At.step hm ht ⟨[(2, .b false)], [true], [], [0], [0]⟩ 2 ⟨[(0, .one (.c (.own 0 (.int .u8) b)))], [(0, some ⟨5, 0⟩)], [], 1⟩ [(decide ((bytes : Int) < 1)) = false, (decide ((bytes : Int) > 8)) = true] (by kernel_rfl) ⟨b178_2, b178_e0, trivial⟩ ?_
        have h := Option.some.inj h
        subst h
        exact At.fin hm ht ⟨[], [], [.mv 0 6 0], [6], [0, 3]⟩ [] (by kernel_rfl) trivial
      · refine At.step hm ht ⟨[(2, .b false)], [false], [], [0, 1, 2], [0]⟩ 3 ⟨[(0, .one (.c (.own 0 (.int .u8) b))), (1, .one (.c (.d (.int .u64 n_)))), (2, .one (.c (.d (.int .i64 bytes))))], [(0, some ⟨5, 0⟩)], [], 1⟩ [(decide ((bytes : Int) < 1)) = false, (decide ((bytes : Int) > 8)) = false] (by kernel_rfl) ⟨b178_2, b178_e0, trivial⟩ ?_
        obtain ⟨r181_0, cr181_0, h⟩ := bindS h
        refine At.step hm ht ⟨[(5, .call [0] [] (f82_broughamref02_Put_v2_out r181_0))], [], [], [0, 1], [0, 7]⟩ 4 ⟨[(0, .one (.c (.own 1 (.int .u8) r181_0))), (1, .one (.c (.d (.int .u64 n_))))], [(1, some ⟨5, 0⟩)], [], 2⟩ [(256 : Int) ≠ 0, FnOK Go.Proofs.Try.prog 82 (f82_broughamref02_Put_v2_in b (IntKind.wrap .u64 (Int.tdiv n_ 256)) (IntKind.wrap .i64 (bytes - 1))) (f82_broughamref02_Put_v2_out r181_0)] (by kernel_rfl) ⟨(by decide), (ih b (IntKind.wrap .u64 (Int.tdiv n_ 256)) (IntKind.wrap .i64 (bytes - 1)) r181_0 cr181_0), trivial⟩ ?_
        obtain ⟨g182_0, h⟩ := ifS h
        have h := Option.some.inj h
        subst h
        exact At.fin hm ht ⟨[], [], [], [6], [0, 7]⟩ [(256 : Int) ≠ 0, r181_0.length + [(IntKind.wrap .u8 (Int.tmod n_ 256))].length ≤ maxLen ∧ (r181_0.length + [(IntKind.wrap .u8 (Int.tmod n_ 256))].length) * 1 ≤ 140737488355328] (by kernel_rfl) ⟨(by decide), g182_0, trivial⟩
/-! brougham/pack.Get -/
def f84_pack_Get_in (b : List Int) (sizes : List Int) : Inn := ⟨[.c (.d (.sl (.int .u8) b)), .c (.d (.sl (.int .i64) sizes))], [], [], 0⟩
def f84_pack_Get_out (r : List Int × List Int × Bool) : Out := ⟨.tup [.c (.own 0 (.int .u64) r.1), .c (.own 1 (.int .u8) r.2.1), .c (.d (.bool r.2.2))], [(0, ⟨22, 0⟩), (1, ⟨5, 0⟩)], [], 2⟩
def f84_pack_Get_L9 : Nat → (List Int) → (List Int) → Int → Int → (List Int) → Int → Int → (List Int) → Int → Int → Option (List Int × List Int × Int × Int × List Int × Int × Int)
  | 0, _, _, _, _, _, _, _, _, _, _ => none
  | n + 1, b, out, n_, x, t13, t14, t15, t33, t34, t35 =>
    if (decide ((t35 : Int) < t34)) = true then
      if (0 : Int) ≤ t35 ∧ t35 < (((t33).length : Nat) : Int) then
      f84_pack_Get_L9 n b out n_ (bits .or .u64 (IntKind.wrap .u64 (x * 2 ^ 8)) (IntKind.wrap .u64 (t33.getD t35.toNat 0))) t13 t14 t15 t33 t34 (IntKind.wrap .i64 (t35 + 1))
      else none
    else
      some ((b, out, n_, x, t13, t14, t15))
def f84_pack_Get_L9_k (e : List Int × List Int × Int × Int × List Int × Int × Int) (o : Out) : Prop := At Go.Proofs.Try.prog Go.Proofs.Try.f84 0 13 ⟨[(0, .one (.c (.d (.sl (.int .u8) e.1)))), (7, .one (.c (.own 0 (.int .u64) e.2.1))), (9, .one (.c (.d (.int .i64 e.2.2.1)))), (10, .one (.c (.d (.int .u64 e.2.2.2.1)))), (13, .one (.c (.d (.sl (.int .i64) e.2.2.2.2.1)))), (14, .one (.c (.d (.int .i64 e.2.2.2.2.2.1)))), (15, .one (.c (.d (.int .i64 e.2.2.2.2.2.2))))], [(0, some ⟨22, 0⟩)], [], 1⟩ o
theorem f84_pack_Get_L9_ok (n : Nat) : ∀ (b : List Int) (out : List Int) (n_ : Int) (x : Int) (t13 : List Int) (t14 : Int) (t15 : Int) (t33 : List Int) (t34 : Int) (t35 : Int) (w : List Int × List Int × Int × Int × List Int × Int × Int) (h : f84_pack_Get_L9 n b out n_ x t13 t14 t15 t33 t34 t35 = some w) (o : Out) (hk : f84_pack_Get_L9_k w o), At Go.Proofs.Try.prog Go.Proofs.Try.f84 0 9 ⟨[(0, .one (.c (.d (.sl (.int .u8) b)))), (7, .one (.c (.own 0 (.int .u64) out))), (9, .one (.c (.d (.int .i64 n_)))), (10, .one (.c (.d (.int .u64 x)))), (13, .one (.c (.d (.sl (.int .i64) t13)))), (14, .one (.c (.d (.int .i64 t14)))), (15, .one (.c (.d (.int .i64 t15)))), (33, .one (.c (.d (.sl (.int .u8) t33)))), (34, .one (.c (.d (.int .i64 t34)))), (35, .one (.c (.d (.int .i64 t35))))], [(0, some ⟨22, 0⟩)], [], 1⟩ o := by
  induction n with
  | zero => intro b out n_ x t13 t14 t15 t33 t34 t35 w h; rw [f84_pack_Get_L9] at h; cases h
  | succ n ih =>
    intro b out n_ x t13 t14 t15 t33 t34 t35 w h o hk
    rw [f84_pack_Get_L9] at h
    rcases iteS h with ⟨b267_e0, h⟩ | ⟨b267_e0, h⟩
    · refine At.step hm ht ⟨[], [true], [], [0, 7, 9, 10, 13, 14, 15, 33, 34, 35], [0]⟩ 10 ⟨[(0, .one (.c (.d (.sl (.int .u8) b)))), (7, .one (.c (.own 0 (.int .u64) out))), (9, .one (.c (.d (.int .i64 n_)))), (10, .one (.c (.d (.int .u64 x)))), (13, .one (.c (.d (.sl (.int .i64) t13)))), (14, .one (.c (.d (.int .i64 t14)))), (15, .one (.c (.d (.int .i64 t15)))), (33, .one (.c (.d (.sl (.int .u8) t33)))), (34, .one (.c (.d (.int .i64 t34)))), (35, .one (.c (.d (.int .i64 t35))))], [(0, some ⟨22, 0⟩)], [], 1⟩ [(decide ((t35 : Int) < t34)) = true] (by kernel_rfl) ⟨b267_e0, trivial⟩ ?_
      obtain ⟨g268_0, h⟩ := ifS h
      refine At.step hm ht ⟨[], [], [], [0, 7, 9, 10, 12, 13, 14, 15, 33, 34, 35], [0]⟩ 11 ⟨[(0, .one (.c (.d (.sl (.int .u8) b)))), (7, .one (.c (.own 0 (.int .u64) out))), (9, .one (.c (.d (.int .i64 n_)))), (10, .one (.c (.d (.int .u64 x)))), (12, .one (.c (.d (.int .u8 (t33.getD t35.toNat 0))))), (13, .one (.c (.d (.sl (.int .i64) t13)))), (14, .one (.c (.d (.int .i64 t14)))), (15, .one (.c (.d (.int .i64 t15)))), (33, .one (.c (.d (.sl (.int .u8) t33)))), (34, .one (.c (.d (.int .i64 t34)))), (35, .one (.c (.d (.int .i64 t35))))], [(0, some ⟨22, 0⟩)], [], 1⟩ [(0 : Int) ≤ t35 ∧ t35 < (((t33).length : Nat) : Int)] (by kernel_rfl) ⟨g268_0, trivial⟩ ?_
      refine At.step hm ht ⟨[], [], [], [0, 7, 9, 10, 13, 14, 15, 33, 34, 35], [0]⟩ 12 ⟨[(0, .one (.c (.d (.sl (.int .u8) b)))), (7, .one (.c (.own 0 (.int .u64) out))), (9, .one (.c (.d (.int .i64 n_)))), (10, .one (.c (.d (.int .u64 (bits .or .u64 (IntKind.wrap .u64 (x * 2 ^ 8)) (IntKind.wrap .u64 (t33.getD t35.toNat 0))))))), (13, .one (.c (.d (.sl (.int .i64) t13)))), (14, .one (.c (.d (.int .i64 t14)))), (15, .one (.c (.d (.int .i64 t15)))), (33, .one (.c (.d (.sl (.int .u8) t33)))), (34, .one (.c (.d (.int .i64 t34)))), (35, .one (.c (.d (.int .i64 t35))))], [(0, some ⟨22, 0⟩)], [], 1⟩ [(0 : Int) ≤ 8] (by kernel_rfl) ⟨(by decide), trivial⟩ ?_
      refine At.step hm ht ⟨[], [], [], [0, 7, 9, 10, 13, 14, 15, 33, 34, 35], [0]⟩ 9 ⟨[(0, .one (.c (.d (.sl (.int .u8) b)))), (7, .one (.c (.own 0 (.int .u64) out))), (9, .one (.c (.d (.int .i64 n_)))), (10, .one (.c (.d (.int .u64 (bits .or .u64 (IntKind.wrap .u64 (x * 2 ^ 8)) (IntKind.wrap .u64 (t33.getD t35.toNat 0))))))), (13, .one (.c (.d (.sl (.int .i64) t13)))), (14, .one (.c (.d (.int .i64 t14)))), (15, .one (.c (.d (.int .i64 t15)))), (33, .one (.c (.d (.sl (.int .u8) t33)))), (34, .one (.c (.d (.int .i64 t34)))), (35, .one (.c (.d (.int .i64 (IntKind.wrap .i64 (t35 + 1))))))], [(0, some ⟨22, 0⟩)], [], 1⟩ [] (by kernel_rfl) trivial ?_
      exact ih b out n_ (bits .or .u64 (IntKind.wrap .u64 (x * 2 ^ 8)) (IntKind.wrap .u64 (t33.getD t35.toNat 0))) t13 t14 t15 t33 t34 (IntKind.wrap .i64 (t35 + 1)) w h o hk
    · refine At.step hm ht ⟨[], [false], [], [0, 7, 9, 10, 13, 14, 15], [0]⟩ 13 ⟨[(0, .one (.c (.d (.sl (.int .u8) b)))), (7, .one (.c (.own 0 (.int .u64) out))), (9, .one (.c (.d (.int .i64 n_)))), (10, .one (.c (.d (.int .u64 x)))), (13, .one (.c (.d (.sl (.int .i64) t13)))), (14, .one (.c (.d (.int .i64 t14)))), (15, .one (.c (.d (.int .i64 t15))))], [(0, some ⟨22, 0⟩)], [], 1⟩ [(decide ((t35 : Int) < t34)) = false] (by kernel_rfl) ⟨b267_e0, trivial⟩ ?_
      have h := Option.some.inj h
      subst h
      exact hk
def f84_pack_Get_L3 : Nat → (List Int) → (List Int) → (List Int) → Int → Int → Option ((List Int × List Int × Bool) ⊕ (List Int × List Int))
  | 0, _, _, _, _, _ => none
  | n + 1, b, out, t13, t14, t15 =>
    if (decide ((t15 : Int) < t14)) = true then
      if (0 : Int) ≤ t15 ∧ t15 < (((t13).length : Nat) : Int) then
      if (decide (((t13.getD t15.toNat 0) : Int) < 1)) = true then
        some (.inl ([], [], false))
      else
        if (decide (((t13.getD t15.toNat 0) : Int) > 8)) = true then
          some (.inl ([], [], false))
        else
          if (decide (((t13.getD t15.toNat 0) : Int) > ((b.length : Nat) : Int))) = true then
            some (.inl ([], [], false))
          else
            if cutOk b.length none (some (t13.getD t15.toNat 0)) none then
            (f84_pack_Get_L9 n b out (t13.getD t15.toNat 0) 0 t13 t14 t15 (b.take (t13.getD t15.toNat 0).toNat) (((b.take (t13.getD t15.toNat 0).toNat).length : Nat) : Int) 0).bind fun w271 =>
            if w271.2.1.length + [w271.2.2.2.1].length ≤ maxLen ∧ (w271.2.1.length + [w271.2.2.2.1].length) * 8 ≤ 140737488355328 then
            if cutOk w271.1.length (some w271.2.2.1) none none then
            f84_pack_Get_L3 n ((w271.1.take w271.1.length).drop w271.2.2.1.toNat) (w271.2.1 ++ [w271.2.2.2.1]) w271.2.2.2.2.1 w271.2.2.2.2.2.1 (IntKind.wrap .i64 (w271.2.2.2.2.2.2 + 1))
            else none
            else none
            else none
      else none
    else
      some (.inr ((b, out)))
def f84_pack_Get_L3_k (w : (List Int × List Int × Bool) ⊕ (List Int × List Int)) (o : Out) : Prop := match w with
  | .inl e => o = f84_pack_Get_out e
  | .inr e => At Go.Proofs.Try.prog Go.Proofs.Try.f84 0 16 ⟨[(0, .one (.c (.d (.sl (.int .u8) e.1)))), (7, .one (.c (.own 0 (.int .u64) e.2)))], [(0, some ⟨22, 0⟩)], [], 1⟩ o
theorem f84_pack_Get_L3_ok (n : Nat) : ∀ (b : List Int) (out : List Int) (t13 : List Int) (t14 : Int) (t15 : Int) (w : (List Int × List Int × Bool) ⊕ (List Int × List Int)) (h : f84_pack_Get_L3 n b out t13 t14 t15 = some w) (o : Out) (hk : f84_pack_Get_L3_k w o), At Go.Proofs.Try.prog Go.Proofs.Try.f84 0 3 ⟨[(0, .one (.c (.d (.sl (.int .u8) b)))), (7, .one (.c (.own 0 (.int .u64) out))), (13, .one (.c (.d (.sl (.int .i64) t13)))), (14, .one (.c (.d (.int .i64 t14)))), (15, .one (.c (.d (.int .i64 t15))))], [(0, some ⟨22, 0⟩)], [], 1⟩ o := by
  induction n with
  | zero => intro b out t13 t14 t15 w h; rw [f84_pack_Get_L3] at h; cases h
  | succ n ih =>
    intro b out t13 t14 t15 w h o hk
    rw [f84_pack_Get_L3] at h
    rcases iteS h with ⟨b259_e0, h⟩ | ⟨b259_e0, h⟩
    · refine At.step hm ht ⟨[], [true], [], [0, 7, 13, 14, 15], [0]⟩ 4 ⟨[(0, .one (.c (.d (.sl (.int .u8) b)))), (7, .one (.c (.own 0 (.int .u64) out))), (13, .one (.c (.d (.sl (.int .i64) t13)))), (14, .one (.c (.d (.int .i64 t14)))), (15, .one (.c (.d (.int .i64 t15))))], [(0, some ⟨22, 0⟩)], [], 1⟩ [(decide ((t15 : Int) < t14)) = true] (by kernel_rfl) ⟨b259_e0, trivial⟩ ?_
      obtain ⟨g260_0, h⟩ := ifS h
      refine At.step hm ht ⟨[], [], [], [0, 7, 9, 13, 14, 15], [0]⟩ 5 ⟨[(0, .one (.c (.d (.sl (.int .u8) b)))), (7, .one (.c (.own 0 (.int .u64) out))), (9, .one (.c (.d (.int .i64 (t13.getD t15.toNat 0))))), (13, .one (.c (.d (.sl (.int .i64) t13)))), (14, .one (.c (.d (.int .i64 t14)))), (15, .one (.c (.d (.int .i64 t15))))], [(0, some ⟨22, 0⟩)], [], 1⟩ [(0 : Int) ≤ t15 ∧ t15 < (((t13).length : Nat) : Int)] (by kernel_rfl) ⟨g260_0, trivial⟩ ?_
      rcases iteS h with ⟨b261_2, h⟩ | ⟨b261_2, h⟩
      · refine At.step hm ht ⟨[(2, .b true)], [true], [], [], []⟩ 6 ⟨[], [], [], 0⟩ [(decide (((t13.getD t15.toNat 0) : Int) < 1)) = true, true = true] (by kernel_rfl) ⟨b261_2, rfl, trivial⟩ ?_
        have h := Option.some.inj h
        subst h
        have hk : o = f84_pack_Get_out ([], [], false) := hk
        subst hk
        exact At.fin hm ht ⟨[], [], [.nil false 4 0 (.int .u64) (some 22), .nil false 5 0 (.int .u8) (some 5)], [4, 5, 6], [3, 4]⟩ [] (by kernel_rfl) trivial
      · rcases iteS h with ⟨b261_6, h⟩ | ⟨b261_6, h⟩
        · refine At.step hm ht ⟨[(2, .b false), (6, .b true)], [true], [], [], []⟩ 6 ⟨[], [], [], 0⟩ [(decide (((t13.getD t15.toNat 0) : Int) < 1)) = false, (decide (((t13.getD t15.toNat 0) : Int) > 8)) = true, true = true] (by kernel_rfl) ⟨b261_2, b261_6, rfl, trivial⟩ ?_
          have h := Option.some.inj h
          subst h
          have hk : o = f84_pack_Get_out ([], [], false) := hk
          subst hk
          exact At.fin hm ht ⟨[], [], [.nil false 4 0 (.int .u64) (some 22), .nil false 5 0 (.int .u8) (some 5)], [4, 5, 6], [3, 4]⟩ [] (by kernel_rfl) trivial
        · rcases iteS h with ⟨b261_e0, h⟩ | ⟨b261_e0, h⟩
          · refine At.step hm ht ⟨[(2, .b false), (6, .b false)], [true], [], [], []⟩ 6 ⟨[], [], [], 0⟩ [(decide (((t13.getD t15.toNat 0) : Int) < 1)) = false, (decide (((t13.getD t15.toNat 0) : Int) > 8)) = false, (decide (((t13.getD t15.toNat 0) : Int) > ((b.length : Nat) : Int))) = true] (by kernel_rfl) ⟨b261_2, b261_6, b261_e0, trivial⟩ ?_
            have h := Option.some.inj h
            subst h
            have hk : o = f84_pack_Get_out ([], [], false) := hk
            subst hk
            exact At.fin hm ht ⟨[], [], [.nil false 4 0 (.int .u64) (some 22), .nil false 5 0 (.int .u8) (some 5)], [4, 5, 6], [3, 4]⟩ [] (by kernel_rfl) trivial
          · refine At.step hm ht ⟨[(2, .b false), (6, .b false)], [false], [], [0, 7, 9, 13, 14, 15], [0]⟩ 7 ⟨[(0, .one (.c (.d (.sl (.int .u8) b)))), (7, .one (.c (.own 0 (.int .u64) out))), (9, .one (.c (.d (.int .i64 (t13.getD t15.toNat 0))))), (13, .one (.c (.d (.sl (.int .i64) t13)))), (14, .one (.c (.d (.int .i64 t14)))), (15, .one (.c (.d (.int .i64 t15))))], [(0, some ⟨22, 0⟩)], [], 1⟩ [(decide (((t13.getD t15.toNat 0) : Int) < 1)) = false, (decide (((t13.getD t15.toNat 0) : Int) > 8)) = false, (decide (((t13.getD t15.toNat 0) : Int) > ((b.length : Nat) : Int))) = false] (by kernel_rfl) ⟨b261_2, b261_6, b261_e0, trivial⟩ ?_
            refine At.step hm ht ⟨[], [], [], [0, 7, 9, 10, 13, 14, 15], [0]⟩ 8 ⟨[(0, .one (.c (.d (.sl (.int .u8) b)))), (7, .one (.c (.own 0 (.int .u64) out))), (9, .one (.c (.d (.int .i64 (t13.getD t15.toNat 0))))), (10, .one (.c (.d (.int .u64 0)))), (13, .one (.c (.d (.sl (.int .i64) t13)))), (14, .one (.c (.d (.int .i64 t14)))), (15, .one (.c (.d (.int .i64 t15))))], [(0, some ⟨22, 0⟩)], [], 1⟩ [] (by kernel_rfl) trivial ?_
            obtain ⟨g266_0, h⟩ := ifS h
            refine At.step hm ht ⟨[], [], [], [0, 7, 9, 10, 13, 14, 15, 33, 34, 35], [0]⟩ 9 ⟨[(0, .one (.c (.d (.sl (.int .u8) b)))), (7, .one (.c (.own 0 (.int .u64) out))), (9, .one (.c (.d (.int .i64 (t13.getD t15.toNat 0))))), (10, .one (.c (.d (.int .u64 0)))), (13, .one (.c (.d (.sl (.int .i64) t13)))), (14, .one (.c (.d (.int .i64 t14)))), (15, .one (.c (.d (.int .i64 t15)))), (33, .one (.c (.d (.sl (.int .u8) (b.take (t13.getD t15.toNat 0).toNat))))), (34, .one (.c (.d (.int .i64 (((b.take (t13.getD t15.toNat 0).toNat).length : Nat) : Int))))), (35, .one (.c (.d (.int .i64 0))))], [(0, some ⟨22, 0⟩)], [], 1⟩ [cutOk b.length none (some (t13.getD t15.toNat 0)) none] (by kernel_rfl) ⟨g266_0, trivial⟩ ?_
            obtain ⟨w271, cw271, h⟩ := bindS h
            refine f84_pack_Get_L9_ok n b out (t13.getD t15.toNat 0) 0 t13 t14 t15 (b.take (t13.getD t15.toNat 0).toNat) (((b.take (t13.getD t15.toNat 0).toNat).length : Nat) : Int) 0 w271 cw271 _ ?_
            show At Go.Proofs.Try.prog Go.Proofs.Try.f84 0 13 ⟨[(0, .one (.c (.d (.sl (.int .u8) w271.1)))), (7, .one (.c (.own 0 (.int .u64) w271.2.1))), (9, .one (.c (.d (.int .i64 w271.2.2.1)))), (10, .one (.c (.d (.int .u64 w271.2.2.2.1)))), (13, .one (.c (.d (.sl (.int .i64) w271.2.2.2.2.1)))), (14, .one (.c (.d (.int .i64 w271.2.2.2.2.2.1)))), (15, .one (.c (.d (.int .i64 w271.2.2.2.2.2.2))))], [(0, some ⟨22, 0⟩)], [], 1⟩ _
            obtain ⟨g273_0, h⟩ := ifS h
            refine At.step hm ht ⟨[], [], [], [0, 7, 9, 13, 14, 15], [4]⟩ 14 ⟨[(0, .one (.c (.d (.sl (.int .u8) w271.1)))), (7, .one (.c (.own 0 (.int .u64) (w271.2.1 ++ [w271.2.2.2.1])))), (9, .one (.c (.d (.int .i64 w271.2.2.1)))), (13, .one (.c (.d (.sl (.int .i64) w271.2.2.2.2.1)))), (14, .one (.c (.d (.int .i64 w271.2.2.2.2.2.1)))), (15, .one (.c (.d (.int .i64 w271.2.2.2.2.2.2))))], [(0, some ⟨22, 0⟩)], [], 1⟩ [w271.2.1.length + [w271.2.2.2.1].length ≤ maxLen ∧ (w271.2.1.length + [w271.2.2.2.1].length) * 8 ≤ 140737488355328] (by kernel_rfl) ⟨g273_0, trivial⟩ ?_
            obtain ⟨g274_0, h⟩ := ifS h
            refine At.step hm ht ⟨[], [], [], [0, 7, 13, 14, 15], [0]⟩ 15 ⟨[(0, .one (.c (.d (.sl (.int .u8) ((w271.1.take w271.1.length).drop w271.2.2.1.toNat))))), (7, .one (.c (.own 0 (.int .u64) (w271.2.1 ++ [w271.2.2.2.1])))), (13, .one (.c (.d (.sl (.int .i64) w271.2.2.2.2.1)))), (14, .one (.c (.d (.int .i64 w271.2.2.2.2.2.1)))), (15, .one (.c (.d (.int .i64 w271.2.2.2.2.2.2))))], [(0, some ⟨22, 0⟩)], [], 1⟩ [cutOk w271.1.length (some w271.2.2.1) none none] (by kernel_rfl) ⟨g274_0, trivial⟩ ?_
            refine At.step hm ht ⟨[], [], [], [0, 7, 13, 14, 15], [0]⟩ 3 ⟨[(0, .one (.c (.d (.sl (.int .u8) ((w271.1.take w271.1.length).drop w271.2.2.1.toNat))))), (7, .one (.c (.own 0 (.int .u64) (w271.2.1 ++ [w271.2.2.2.1])))), (13, .one (.c (.d (.sl (.int .i64) w271.2.2.2.2.1)))), (14, .one (.c (.d (.int .i64 w271.2.2.2.2.2.1)))), (15, .one (.c (.d (.int .i64 (IntKind.wrap .i64 (w271.2.2.2.2.2.2 + 1))))))], [(0, some ⟨22, 0⟩)], [], 1⟩ [] (by kernel_rfl) trivial ?_
            exact ih ((w271.1.take w271.1.length).drop w271.2.2.1.toNat) (w271.2.1 ++ [w271.2.2.2.1]) w271.2.2.2.2.1 w271.2.2.2.2.2.1 (IntKind.wrap .i64 (w271.2.2.2.2.2.2 + 1)) w h o hk
    · refine At.step hm ht ⟨[], [false], [], [0, 7], [0]⟩ 16 ⟨[(0, .one (.c (.d (.sl (.int .u8) b)))), (7, .one (.c (.own 0 (.int .u64) out)))], [(0, some ⟨22, 0⟩)], [], 1⟩ [(decide ((t15 : Int) < t14)) = false] (by kernel_rfl) ⟨b259_e0, trivial⟩ ?_
      have h := Option.some.inj h
      subst h
      exact hk
def f84_pack_Get (n : Nat) (b : List Int) (sizes : List Int) : Option (List Int × List Int × Bool) :=
  (f84_pack_Get_L3 n b [] sizes ((sizes.length : Nat) : Int) 0).bind fun w276 =>
  match w276 with
  | .inl e277 =>
    some (e277.1, e277.2.1, e277.2.2)
  | .inr e278 =>
    if e278.1.length ≤ maxLen ∧ e278.1.length * 1 ≤ 140737488355328 then
    some (e278.2, e278.1, true)
    else none
theorem f84_pack_Get_ok (n : Nat) (b : List Int) (sizes : List Int) (r : List Int × List Int × Bool) (h : f84_pack_Get n b sizes = some r) : FnOK Go.Proofs.Try.prog 84 (f84_pack_Get_in b sizes) (f84_pack_Get_out r) := by
  unfold f84_pack_Get at h
  refine At.fn (r := 0) Go.Proofs.Try.func84 rfl (by kernel_rfl) rfl rfl (by kernel_rfl) ?_
  show At Go.Proofs.Try.prog Go.Proofs.Try.f84 0 0 ⟨[(0, .one (.c (.d (.sl (.int .u8) b)))), (1, .one (.c (.d (.sl (.int .i64) sizes))))], [], [], 0⟩ _
  refine At.step hm ht ⟨[], [], [], [0, 1], []⟩ 1 ⟨[(0, .one (.c (.d (.sl (.int .u8) b)))), (1, .one (.c (.d (.sl (.int .i64) sizes))))], [], [], 0⟩ [] (by kernel_rfl) trivial ?_
  refine At.step hm ht ⟨[], [], [], [0, 1, 7], []⟩ 2 ⟨[(0, .one (.c (.d (.sl (.int .u8) b)))), (1, .one (.c (.d (.sl (.int .i64) sizes)))), (7, .one (.c (.d (.sl .unit []))))], [], [], 0⟩ [] (by kernel_rfl) trivial ?_
  refine At.step hm ht ⟨[], [], [.nil false 7 0 (.int .u64) (some 22)], [0, 7, 13, 14, 15], [3]⟩ 3 ⟨[(0, .one (.c (.d (.sl (.int .u8) b)))), (7, .one (.c (.own 0 (.int .u64) []))), (13, .one (.c (.d (.sl (.int .i64) sizes)))), (14, .one (.c (.d (.int .i64 ((sizes.length : Nat) : Int))))), (15, .one (.c (.d (.int .i64 0))))], [(0, some ⟨22, 0⟩)], [], 1⟩ [] (by kernel_rfl) trivial ?_
  obtain ⟨w276, cw276, h⟩ := bindS h
  refine f84_pack_Get_L3_ok n b [] sizes ((sizes.length : Nat) : Int) 0 w276 cw276 _ ?_
  rcases w276 with e277 | e278
  · have h := Option.some.inj h
    subst h
    rfl
  · show At Go.Proofs.Try.prog Go.Proofs.Try.f84 0 16 ⟨[(0, .one (.c (.d (.sl (.int .u8) e278.1)))), (7, .one (.c (.own 0 (.int .u64) e278.2)))], [(0, some ⟨22, 0⟩)], [], 1⟩ _
    obtain ⟨g279_0, h⟩ := ifS h
    have h := Option.some.inj h
    subst h
    exact At.fin hm ht ⟨[], [], [], [4, 5, 6], [0, 3]⟩ [e278.1.length ≤ maxLen ∧ e278.1.length * 1 ≤ 140737488355328] (by kernel_rfl) ⟨g279_0, trivial⟩
/-! brougham/pack.All -/
def f83_pack_All_in (b : List Int) (sizes : List Int) : Inn := ⟨[.c (.d (.sl (.int .u8) b)), .c (.d (.sl (.int .i64) sizes))], [], [], 0⟩
def f83_pack_All_out (r : List Int × Bool) : Out := ⟨.tup [.c (.own 0 (.int .u64) r.1), .c (.d (.bool r.2))], [(0, ⟨22, 0⟩)], [], 1⟩
def f83_pack_All (n : Nat) (b : List Int) (sizes : List Int) : Option (List Int × Bool) :=
  (f84_pack_Get n b sizes).bind fun r285_0 =>
  if (!r285_0.2.2) = true then
    some ([], false)
  else
    if (decide ((((r285_0.2.1.length : Nat) : Int) : Int) > 0)) = true then
      some ([], false)
    else
      some (r285_0.1, true)
theorem f83_pack_All_ok (n : Nat) (b : List Int) (sizes : List Int) (r : List Int × Bool) (h : f83_pack_All n b sizes = some r) : FnOK Go.Proofs.Try.prog 83 (f83_pack_All_in b sizes) (f83_pack_All_out r) := by
  unfold f83_pack_All at h
  refine At.fn (r := 0) Go.Proofs.Try.func83 rfl (by kernel_rfl) rfl rfl (by kernel_rfl) ?_
  show At Go.Proofs.Try.prog Go.Proofs.Try.f83 0 0 ⟨[(0, .one (.c (.d (.sl (.int .u8) b)))), (1, .one (.c (.d (.sl (.int .i64) sizes))))], [], [], 0⟩ _
  refine At.step hm ht ⟨[], [], [], [0, 1], []⟩ 1 ⟨[(0, .one (.c (.d (.sl (.int .u8) b)))), (1, .one (.c (.d (.sl (.int .i64) sizes))))], [], [], 0⟩ [] (by kernel_rfl) trivial ?_
  obtain ⟨r285_0, cr285_0, h⟩ := bindS h
  refine At.step hm ht ⟨[(2, .call [] [] (f84_pack_Get_out r285_0))], [], [], [6, 7, 8], [2, 3]⟩ 2 ⟨[(6, .one (.c (.own 0 (.int .u64) r285_0.1))), (7, .one (.c (.own 1 (.int .u8) r285_0.2.1))), (8, .one (.c (.d (.bool r285_0.2.2))))], [(0, some ⟨22, 0⟩), (1, some ⟨5, 0⟩)], [], 2⟩ [FnOK Go.Proofs.Try.prog 84 (f84_pack_Get_in b sizes) (f84_pack_Get_out r285_0)] (by kernel_rfl) ⟨(f84_pack_Get_ok n b sizes r285_0 cr285_0), trivial⟩ ?_
  rcases iteS h with ⟨b286_2, h⟩ | ⟨b286_2, h⟩
  · refine At.step hm ht ⟨[(2, .b true)], [true], [], [], []⟩ 3 ⟨[], [], [], 0⟩ [(!r285_0.2.2) = true, true = true] (by kernel_rfl) ⟨b286_2, rfl, trivial⟩ ?_
    have h := Option.some.inj h
    subst h
    exact At.fin hm ht ⟨[], [], [.nil false 4 0 (.int .u64) (some 22)], [4, 5], [2]⟩ [] (by kernel_rfl) trivial
  · rcases iteS h with ⟨b286_e0, h⟩ | ⟨b286_e0, h⟩
    · refine At.step hm ht ⟨[(2, .b false)], [true], [], [], []⟩ 3 ⟨[], [], [], 0⟩ [(!r285_0.2.2) = false, (decide ((((r285_0.2.1.length : Nat) : Int) : Int) > 0)) = true] (by kernel_rfl) ⟨b286_2, b286_e0, trivial⟩ ?_
      have h := Option.some.inj h
      subst h
      exact At.fin hm ht ⟨[], [], [.nil false 4 0 (.int .u64) (some 22)], [4, 5], [2]⟩ [] (by kernel_rfl) trivial
    · refine At.step hm ht ⟨[(2, .b false)], [false], [], [6], [0]⟩ 4 ⟨[(6, .one (.c (.own 0 (.int .u64) r285_0.1)))], [(0, some ⟨22, 0⟩)], [], 1⟩ [(!r285_0.2.2) = false, (decide ((((r285_0.2.1.length : Nat) : Int) : Int) > 0)) = false] (by kernel_rfl) ⟨b286_2, b286_e0, trivial⟩ ?_
      have h := Option.some.inj h
      subst h
      exact At.fin hm ht ⟨[], [], [], [4, 5], [0]⟩ [] (by kernel_rfl) trivial
/-! brougham/capture.Decode -/
def f28_capture_Decode_in (b : List Int) : Inn := ⟨[.c (.d (.sl (.int .u8) b))], [], [], 0⟩
def f28_capture_Decode_out (r : (List (Int × Int × Int × List Int)) × Bool) : Out := ⟨.tup [.c (.own 0 (.pair (.int .i64) (.pair (.int .i64) (.pair (.int .i64) (.slice (.int .u8))))) r.1), .c (.d (.bool r.2))], [(0, ⟨82, 0⟩)], [], 1⟩
def f28_capture_Decode_L13 : Nat → (List Int) → (List (Int × Int × Int × List Int)) → Int → Int → Int → Option (((List (Int × Int × Int × List Int)) × Bool) ⊕ (List Int × List (Int × Int × Int × List Int)))
  | 0, _, _, _, _, _ => none
  | n + 1, rest_, out, tick, t67, t68 =>
    if (decide ((t68 : Int) < t67)) = true then
      (f84_pack_Get n rest_ [4, 1, 2]).bind fun r363_0 =>
      if (!r363_0.2.2) = true then
        some (.inl ([], false))
      else
        if (0 : Int) ≤ 2 ∧ 2 < (((r363_0.1).length : Nat) : Int) then
        if (decide (((IntKind.wrap .i64 (r363_0.1.getD 2 0)) : Int) > ((r363_0.2.1.length : Nat) : Int))) = true then
          some (.inl ([], false))
        else
          if (0 : Int) ≤ 0 ∧ 0 < (((r363_0.1).length : Nat) : Int) then
          if (decide (((r363_0.1.getD 0 0) : Int) ≥ 2147483648)) = true then
            some (.inl ([], false))
          else
            if (0 : Int) ≤ 0 ∧ 0 < (((r363_0.1).length : Nat) : Int) then
            if (0 : Int) ≤ 2 ∧ 2 < (((r363_0.1).length : Nat) : Int) then
            if (0 : Int) ≤ 1 ∧ 1 < (((r363_0.1).length : Nat) : Int) then
            if (0 : Int) ≤ 1 ∧ 1 < (((r363_0.1).length : Nat) : Int) then
            if cutOk r363_0.2.1.length none (some (IntKind.wrap .i64 (r363_0.1.getD 2 0))) none then
            if (r363_0.2.1.take (IntKind.wrap .i64 (r363_0.1.getD 2 0)).toNat).length ≤ maxLen ∧ (r363_0.2.1.take (IntKind.wrap .i64 (r363_0.1.getD 2 0)).toNat).length * 1 ≤ 140737488355328 then
            if out.length + [((IntKind.wrap .i64 (tick + (IntKind.wrap .i64 (r363_0.1.getD 0 0)))), ((IntKind.wrap .i64 (Int.fdiv (r363_0.1.getD 1 0) (2 ^ 7))), ((IntKind.wrap .i64 (bits .and .u64 (r363_0.1.getD 1 0) 127)), (r363_0.2.1.take (IntKind.wrap .i64 (r363_0.1.getD 2 0)).toNat))))].length ≤ maxLen ∧ (out.length + [((IntKind.wrap .i64 (tick + (IntKind.wrap .i64 (r363_0.1.getD 0 0)))), ((IntKind.wrap .i64 (Int.fdiv (r363_0.1.getD 1 0) (2 ^ 7))), ((IntKind.wrap .i64 (bits .and .u64 (r363_0.1.getD 1 0) 127)), (r363_0.2.1.take (IntKind.wrap .i64 (r363_0.1.getD 2 0)).toNat))))].length) * 48 ≤ 140737488355328 then
            if cutOk r363_0.2.1.length (some (IntKind.wrap .i64 (r363_0.1.getD 2 0))) none none then
            f28_capture_Decode_L13 n ((r363_0.2.1.take r363_0.2.1.length).drop (IntKind.wrap .i64 (r363_0.1.getD 2 0)).toNat) (out ++ [((IntKind.wrap .i64 (tick + (IntKind.wrap .i64 (r363_0.1.getD 0 0)))), ((IntKind.wrap .i64 (Int.fdiv (r363_0.1.getD 1 0) (2 ^ 7))), ((IntKind.wrap .i64 (bits .and .u64 (r363_0.1.getD 1 0) 127)), (r363_0.2.1.take (IntKind.wrap .i64 (r363_0.1.getD 2 0)).toNat))))]) (IntKind.wrap .i64 (tick + (IntKind.wrap .i64 (r363_0.1.getD 0 0)))) t67 (IntKind.wrap .u64 (t68 + 1))
            else none
            else none
            else none
            else none
            else none
            else none
            else none
            else none
          else none
        else none
    else
      some (.inr ((rest_, out)))
def f28_capture_Decode_L13_k (w : ((List (Int × Int × Int × List Int)) × Bool) ⊕ (List Int × List (Int × Int × Int × List Int))) (o : Out) : Prop := match w with
  | .inl e => o = f28_capture_Decode_out e
  | .inr e => At Go.Proofs.Try.prog Go.Proofs.Try.f28 0 22 ⟨[(8, .one (.c (.d (.sl (.int .u8) e.1)))), (9, .one (.c (.own 0 (.pair (.int .i64) (.pair (.int .i64) (.pair (.int .i64) (.slice (.int .u8))))) e.2)))], [(0, some ⟨82, 0⟩)], [], 1⟩ o
theorem f28_capture_Decode_L13_ok (n : Nat) : ∀ (rest_ : List Int) (out : List (Int × Int × Int × List Int)) (tick : Int) (t67 : Int) (t68 : Int) (w : ((List (Int × Int × Int × List Int)) × Bool) ⊕ (List Int × List (Int × Int × Int × List Int))) (h : f28_capture_Decode_L13 n rest_ out tick t67 t68 = some w) (o : Out) (hk : f28_capture_Decode_L13_k w o), At Go.Proofs.Try.prog Go.Proofs.Try.f28 0 13 ⟨[(8, .one (.c (.d (.sl (.int .u8) rest_)))), (9, .one (.c (.own 0 (.pair (.int .i64) (.pair (.int .i64) (.pair (.int .i64) (.slice (.int .u8))))) out))), (10, .one (.c (.d (.int .i64 tick)))), (67, .one (.c (.d (.int .u64 t67)))), (68, .one (.c (.d (.int .u64 t68))))], [(0, some ⟨82, 0⟩)], [], 1⟩ o := by
  induction n with
  | zero => intro rest_ out tick t67 t68 w h; rw [f28_capture_Decode_L13] at h; cases h
  | succ n ih =>
    intro rest_ out tick t67 t68 w h o hk
    rw [f28_capture_Decode_L13] at h
    rcases iteS h with ⟨b362_e0, h⟩ | ⟨b362_e0, h⟩
    · refine At.step hm ht ⟨[], [true], [], [8, 9, 10, 67, 68], [0]⟩ 14 ⟨[(8, .one (.c (.d (.sl (.int .u8) rest_)))), (9, .one (.c (.own 0 (.pair (.int .i64) (.pair (.int .i64) (.pair (.int .i64) (.slice (.int .u8))))) out))), (10, .one (.c (.d (.int .i64 tick)))), (67, .one (.c (.d (.int .u64 t67)))), (68, .one (.c (.d (.int .u64 t68))))], [(0, some ⟨82, 0⟩)], [], 1⟩ [(decide ((t68 : Int) < t67)) = true] (by kernel_rfl) ⟨b362_e0, trivial⟩ ?_
      obtain ⟨r363_0, cr363_0, h⟩ := bindS h
      refine At.step hm ht ⟨[(2, .call [] [] (f84_pack_Get_out r363_0))], [], [], [9, 10, 11, 12, 13, 67, 68], [0, 3, 4]⟩ 15 ⟨[(9, .one (.c (.own 0 (.pair (.int .i64) (.pair (.int .i64) (.pair (.int .i64) (.slice (.int .u8))))) out))), (10, .one (.c (.d (.int .i64 tick)))), (11, .one (.c (.own 1 (.int .u64) r363_0.1))), (12, .one (.c (.own 2 (.int .u8) r363_0.2.1))), (13, .one (.c (.d (.bool r363_0.2.2)))), (67, .one (.c (.d (.int .u64 t67)))), (68, .one (.c (.d (.int .u64 t68))))], [(0, some ⟨82, 0⟩), (1, some ⟨22, 0⟩), (2, some ⟨5, 0⟩)], [], 3⟩ [FnOK Go.Proofs.Try.prog 84 (f84_pack_Get_in rest_ [4, 1, 2]) (f84_pack_Get_out r363_0)] (by kernel_rfl) ⟨(f84_pack_Get_ok n rest_ [4, 1, 2] r363_0 cr363_0), trivial⟩ ?_
      rcases iteS h with ⟨b364_2, h⟩ | ⟨b364_2, h⟩
      · refine At.step hm ht ⟨[(2, .b true)], [true], [], [], []⟩ 16 ⟨[], [], [], 0⟩ [(!r363_0.2.2) = true, true = true] (by kernel_rfl) ⟨b364_2, rfl, trivial⟩ ?_
        have h := Option.some.inj h
        subst h
        have hk : o = f28_capture_Decode_out ([], false) := hk
        subst hk
        exact At.fin hm ht ⟨[], [], [.nil false 2 0 (.pair (.int .i64) (.pair (.int .i64) (.pair (.int .i64) (.slice (.int .u8))))) (some 82)], [2, 3], [2]⟩ [] (by kernel_rfl) trivial
      · obtain ⟨g364_0, h⟩ := ifS h
        rcases iteS h with ⟨b364_11, h⟩ | ⟨b364_11, h⟩
        · refine At.step hm ht ⟨[(2, .b false), (11, .b true)], [true], [], [], []⟩ 16 ⟨[], [], [], 0⟩ [(!r363_0.2.2) = false, (0 : Int) ≤ 2 ∧ 2 < (((r363_0.1).length : Nat) : Int), (decide (((IntKind.wrap .i64 (r363_0.1.getD 2 0)) : Int) > ((r363_0.2.1.length : Nat) : Int))) = true, true = true] (by kernel_rfl) ⟨b364_2, g364_0, b364_11, rfl, trivial⟩ ?_
          have h := Option.some.inj h
          subst h
          have hk : o = f28_capture_Decode_out ([], false) := hk
          subst hk
          exact At.fin hm ht ⟨[], [], [.nil false 2 0 (.pair (.int .i64) (.pair (.int .i64) (.pair (.int .i64) (.slice (.int .u8))))) (some 82)], [2, 3], [2]⟩ [] (by kernel_rfl) trivial
        · obtain ⟨g364_1, h⟩ := ifS h
          rcases iteS h with ⟨b364_e0, h⟩ | ⟨b364_e0, h⟩
          · refine At.step hm ht ⟨[(2, .b false), (11, .b false)], [true], [], [], []⟩ 16 ⟨[], [], [], 0⟩ [(!r363_0.2.2) = false, (0 : Int) ≤ 2 ∧ 2 < (((r363_0.1).length : Nat) : Int), (decide (((IntKind.wrap .i64 (r363_0.1.getD 2 0)) : Int) > ((r363_0.2.1.length : Nat) : Int))) = false, (0 : Int) ≤ 0 ∧ 0 < (((r363_0.1).length : Nat) : Int), (decide (((r363_0.1.getD 0 0) : Int) ≥ 2147483648)) = true] (by kernel_rfl) ⟨b364_2, g364_0, b364_11, g364_1, b364_e0, trivial⟩ ?_
            have h := Option.some.inj h
            subst h
            have hk : o = f28_capture_Decode_out ([], false) := hk
            subst hk
            exact At.fin hm ht ⟨[], [], [.nil false 2 0 (.pair (.int .i64) (.pair (.int .i64) (.pair (.int .i64) (.slice (.int .u8))))) (some 82)], [2, 3], [2]⟩ [] (by kernel_rfl) trivial
          · refine At.step hm ht ⟨[(2, .b false), (11, .b false)], [false], [], [9, 10, 11, 12, 67, 68], [0, 1, 2]⟩ 17 ⟨[(9, .one (.c (.own 0 (.pair (.int .i64) (.pair (.int .i64) (.pair (.int .i64) (.slice (.int .u8))))) out))), (10, .one (.c (.d (.int .i64 tick)))), (11, .one (.c (.own 1 (.int .u64) r363_0.1))), (12, .one (.c (.own 2 (.int .u8) r363_0.2.1))), (67, .one (.c (.d (.int .u64 t67)))), (68, .one (.c (.d (.int .u64 t68))))], [(0, some ⟨82, 0⟩), (1, some ⟨22, 0⟩), (2, some ⟨5, 0⟩)], [], 3⟩ [(!r363_0.2.2) = false, (0 : Int) ≤ 2 ∧ 2 < (((r363_0.1).length : Nat) : Int), (decide (((IntKind.wrap .i64 (r363_0.1.getD 2 0)) : Int) > ((r363_0.2.1.length : Nat) : Int))) = false, (0 : Int) ≤ 0 ∧ 0 < (((r363_0.1).length : Nat) : Int), (decide (((r363_0.1.getD 0 0) : Int) ≥ 2147483648)) = false] (by kernel_rfl) ⟨b364_2, g364_0, b364_11, g364_1, b364_e0, trivial⟩ ?_
            obtain ⟨g368_0, h⟩ := ifS h
            refine At.step hm ht ⟨[], [], [], [9, 10, 11, 12, 67, 68], [0, 1, 2]⟩ 18 ⟨[(9, .one (.c (.own 0 (.pair (.int .i64) (.pair (.int .i64) (.pair (.int .i64) (.slice (.int .u8))))) out))), (10, .one (.c (.d (.int .i64 (IntKind.wrap .i64 (tick + (IntKind.wrap .i64 (r363_0.1.getD 0 0)))))))), (11, .one (.c (.own 1 (.int .u64) r363_0.1))), (12, .one (.c (.own 2 (.int .u8) r363_0.2.1))), (67, .one (.c (.d (.int .u64 t67)))), (68, .one (.c (.d (.int .u64 t68))))], [(0, some ⟨82, 0⟩), (1, some ⟨22, 0⟩), (2, some ⟨5, 0⟩)], [], 3⟩ [(0 : Int) ≤ 0 ∧ 0 < (((r363_0.1).length : Nat) : Int)] (by kernel_rfl) ⟨g368_0, trivial⟩ ?_
            obtain ⟨g369_0, h⟩ := ifS h
            refine At.step hm ht ⟨[], [], [], [9, 10, 11, 12, 14, 67, 68], [0, 1, 2]⟩ 19 ⟨[(9, .one (.c (.own 0 (.pair (.int .i64) (.pair (.int .i64) (.pair (.int .i64) (.slice (.int .u8))))) out))), (10, .one (.c (.d (.int .i64 (IntKind.wrap .i64 (tick + (IntKind.wrap .i64 (r363_0.1.getD 0 0)))))))), (11, .one (.c (.own 1 (.int .u64) r363_0.1))), (12, .one (.c (.own 2 (.int .u8) r363_0.2.1))), (14, .one (.c (.d (.int .i64 (IntKind.wrap .i64 (r363_0.1.getD 2 0)))))), (67, .one (.c (.d (.int .u64 t67)))), (68, .one (.c (.d (.int .u64 t68))))], [(0, some ⟨82, 0⟩), (1, some ⟨22, 0⟩), (2, some ⟨5, 0⟩)], [], 3⟩ [(0 : Int) ≤ 2 ∧ 2 < (((r363_0.1).length : Nat) : Int)] (by kernel_rfl) ⟨g369_0, trivial⟩ ?_
            obtain ⟨g370_0, h⟩ := ifS h
            obtain ⟨g370_1, h⟩ := ifS h
            obtain ⟨g370_2, h⟩ := ifS h
            obtain ⟨g370_3, h⟩ := ifS h
            obtain ⟨g370_4, h⟩ := ifS h
            refine At.step hm ht ⟨[], [], [], [9, 10, 12, 14, 67, 68], [21, 2]⟩ 20 ⟨[(9, .one (.c (.own 0 (.pair (.int .i64) (.pair (.int .i64) (.pair (.int .i64) (.slice (.int .u8))))) (out ++ [((IntKind.wrap .i64 (tick + (IntKind.wrap .i64 (r363_0.1.getD 0 0)))), ((IntKind.wrap .i64 (Int.fdiv (r363_0.1.getD 1 0) (2 ^ 7))), ((IntKind.wrap .i64 (bits .and .u64 (r363_0.1.getD 1 0) 127)), (r363_0.2.1.take (IntKind.wrap .i64 (r363_0.1.getD 2 0)).toNat))))])))), (10, .one (.c (.d (.int .i64 (IntKind.wrap .i64 (tick + (IntKind.wrap .i64 (r363_0.1.getD 0 0)))))))), (12, .one (.c (.own 1 (.int .u8) r363_0.2.1))), (14, .one (.c (.d (.int .i64 (IntKind.wrap .i64 (r363_0.1.getD 2 0)))))), (67, .one (.c (.d (.int .u64 t67)))), (68, .one (.c (.d (.int .u64 t68))))], [(0, some ⟨82, 0⟩), (1, some ⟨5, 0⟩)], [], 2⟩ [(0 : Int) ≤ 1 ∧ 1 < (((r363_0.1).length : Nat) : Int), (0 : Int) ≤ 7, (0 : Int) ≤ 1 ∧ 1 < (((r363_0.1).length : Nat) : Int), cutOk r363_0.2.1.length none (some (IntKind.wrap .i64 (r363_0.1.getD 2 0))) none, (r363_0.2.1.take (IntKind.wrap .i64 (r363_0.1.getD 2 0)).toNat).length ≤ maxLen ∧ (r363_0.2.1.take (IntKind.wrap .i64 (r363_0.1.getD 2 0)).toNat).length * 1 ≤ 140737488355328, out.length + [((IntKind.wrap .i64 (tick + (IntKind.wrap .i64 (r363_0.1.getD 0 0)))), ((IntKind.wrap .i64 (Int.fdiv (r363_0.1.getD 1 0) (2 ^ 7))), ((IntKind.wrap .i64 (bits .and .u64 (r363_0.1.getD 1 0) 127)), (r363_0.2.1.take (IntKind.wrap .i64 (r363_0.1.getD 2 0)).toNat))))].length ≤ maxLen ∧ (out.length + [((IntKind.wrap .i64 (tick + (IntKind.wrap .i64 (r363_0.1.getD 0 0)))), ((IntKind.wrap .i64 (Int.fdiv (r363_0.1.getD 1 0) (2 ^ 7))), ((IntKind.wrap .i64 (bits .and .u64 (r363_0.1.getD 1 0) 127)), (r363_0.2.1.take (IntKind.wrap .i64 (r363_0.1.getD 2 0)).toNat))))].length) * 48 ≤ 140737488355328] (by kernel_rfl) ⟨g370_0, (by decide), g370_1, g370_2, g370_3, g370_4, trivial⟩ ?_
            obtain ⟨g371_0, h⟩ := ifS h
            refine At.step hm ht ⟨[], [], [], [8, 9, 10, 67, 68], [0]⟩ 21 ⟨[(8, .one (.c (.d (.sl (.int .u8) ((r363_0.2.1.take r363_0.2.1.length).drop (IntKind.wrap .i64 (r363_0.1.getD 2 0)).toNat))))), (9, .one (.c (.own 0 (.pair (.int .i64) (.pair (.int .i64) (.pair (.int .i64) (.slice (.int .u8))))) (out ++ [((IntKind.wrap .i64 (tick + (IntKind.wrap .i64 (r363_0.1.getD 0 0)))), ((IntKind.wrap .i64 (Int.fdiv (r363_0.1.getD 1 0) (2 ^ 7))), ((IntKind.wrap .i64 (bits .and .u64 (r363_0.1.getD 1 0) 127)), (r363_0.2.1.take (IntKind.wrap .i64 (r363_0.1.getD 2 0)).toNat))))])))), (10, .one (.c (.d (.int .i64 (IntKind.wrap .i64 (tick + (IntKind.wrap .i64 (r363_0.1.getD 0 0)))))))), (67, .one (.c (.d (.int .u64 t67)))), (68, .one (.c (.d (.int .u64 t68))))], [(0, some ⟨82, 0⟩)], [], 1⟩ [cutOk r363_0.2.1.length (some (IntKind.wrap .i64 (r363_0.1.getD 2 0))) none none] (by kernel_rfl) ⟨g371_0, trivial⟩ ?_
            refine At.step hm ht ⟨[], [], [], [8, 9, 10, 67, 68], [0]⟩ 13 ⟨[(8, .one (.c (.d (.sl (.int .u8) ((r363_0.2.1.take r363_0.2.1.length).drop (IntKind.wrap .i64 (r363_0.1.getD 2 0)).toNat))))), (9, .one (.c (.own 0 (.pair (.int .i64) (.pair (.int .i64) (.pair (.int .i64) (.slice (.int .u8))))) (out ++ [((IntKind.wrap .i64 (tick + (IntKind.wrap .i64 (r363_0.1.getD 0 0)))), ((IntKind.wrap .i64 (Int.fdiv (r363_0.1.getD 1 0) (2 ^ 7))), ((IntKind.wrap .i64 (bits .and .u64 (r363_0.1.getD 1 0) 127)), (r363_0.2.1.take (IntKind.wrap .i64 (r363_0.1.getD 2 0)).toNat))))])))), (10, .one (.c (.d (.int .i64 (IntKind.wrap .i64 (tick + (IntKind.wrap .i64 (r363_0.1.getD 0 0)))))))), (67, .one (.c (.d (.int .u64 t67)))), (68, .one (.c (.d (.int .u64 (IntKind.wrap .u64 (t68 + 1))))))], [(0, some ⟨82, 0⟩)], [], 1⟩ [] (by kernel_rfl) trivial ?_
            exact ih ((r363_0.2.1.take r363_0.2.1.length).drop (IntKind.wrap .i64 (r363_0.1.getD 2 0)).toNat) (out ++ [((IntKind.wrap .i64 (tick + (IntKind.wrap .i64 (r363_0.1.getD 0 0)))), ((IntKind.wrap .i64 (Int.fdiv (r363_0.1.getD 1 0) (2 ^ 7))), ((IntKind.wrap .i64 (bits .and .u64 (r363_0.1.getD 1 0) 127)), (r363_0.2.1.take (IntKind.wrap .i64 (r363_0.1.getD 2 0)).toNat))))]) (IntKind.wrap .i64 (tick + (IntKind.wrap .i64 (r363_0.1.getD 0 0)))) t67 (IntKind.wrap .u64 (t68 + 1)) w h o hk
    · refine At.step hm ht ⟨[], [false], [], [8, 9], [0]⟩ 22 ⟨[(8, .one (.c (.d (.sl (.int .u8) rest_)))), (9, .one (.c (.own 0 (.pair (.int .i64) (.pair (.int .i64) (.pair (.int .i64) (.slice (.int .u8))))) out)))], [(0, some ⟨82, 0⟩)], [], 1⟩ [(decide ((t68 : Int) < t67)) = false] (by kernel_rfl) ⟨b362_e0, trivial⟩ ?_
      have h := Option.some.inj h
      subst h
      exact hk
def f28_capture_Decode (n : Nat) (b : List Int) : Option ((List (Int × Int × Int × List Int)) × Bool) :=
  if (decide ((((b.length : Nat) : Int) : Int) < 10)) = true then
    some ([], false)
  else
    if cutOk b.length none (some (IntKind.wrap .i64 (((b.length : Nat) : Int) - 4))) none then
    if cutOk b.length (some (IntKind.wrap .i64 (((b.length : Nat) : Int) - 4))) none none then
    (f83_pack_All n ((b.take b.length).drop (IntKind.wrap .i64 (((b.length : Nat) : Int) - 4)).toNat) [4]).bind fun r350_1 =>
    if (!r350_1.2) = true then
      some ([], false)
    else
      if (0 : Int) ≤ 0 ∧ 0 < (((r350_1.1).length : Nat) : Int) then
      (f25_capture_Sum n (b.take (IntKind.wrap .i64 (((b.length : Nat) : Int) - 4)).toNat)).bind fun r351_1 =>
      if (((IntKind.wrap .u32 (r350_1.1.getD 0 0)) : Int) != r351_1) = true then
        some ([], false)
      else
        (f84_pack_Get n (b.take (IntKind.wrap .i64 (((b.length : Nat) : Int) - 4)).toNat) [4, 2]).bind fun r354_0 =>
        if (!r354_0.2.2) = true then
          some ([], false)
        else
          if (0 : Int) ≤ 0 ∧ 0 < (((r354_0.1).length : Nat) : Int) then
          if (((r354_0.1.getD 0 0) : Int) != 1112690517) = true then
            some ([], false)
          else
            if (0 : Int) ≤ 1 ∧ 1 < (((r354_0.1).length : Nat) : Int) then
            if (decide (((r354_0.1.getD 1 0) : Int) > 1024)) = true then
              some ([], false)
            else
              if (0 : Int) ≤ 1 ∧ 1 < (((r354_0.1).length : Nat) : Int) then
              (f28_capture_Decode_L13 n r354_0.2.1 [] 0 (r354_0.1.getD 1 0) 0).bind fun w373 =>
              match w373 with
              | .inl e374 =>
                some (e374.1, e374.2)
              | .inr e375 =>
                if (decide ((((e375.1.length : Nat) : Int) : Int) > 0)) = true then
                  some ([], false)
                else
                  (f23_capture_Right n e375.2).bind fun r376_0 =>
                  if (!r376_0) = true then
                    some ([], false)
                  else
                    some (e375.2, true)
              else none
            else none
          else none
      else none
    else none
    else none
theorem f28_capture_Decode_ok (n : Nat) (b : List Int) (r : (List (Int × Int × Int × List Int)) × Bool) (h : f28_capture_Decode n b = some r) : FnOK Go.Proofs.Try.prog 28 (f28_capture_Decode_in b) (f28_capture_Decode_out r) := by
  unfold f28_capture_Decode at h
  refine At.fn (r := 0) Go.Proofs.Try.func28 rfl (by kernel_rfl) rfl rfl (by kernel_rfl) ?_
  show At Go.Proofs.Try.prog Go.Proofs.Try.f28 0 0 ⟨[(0, .one (.c (.d (.sl (.int .u8) b))))], [], [], 0⟩ _
  refine At.step hm ht ⟨[], [], [], [0], []⟩ 1 ⟨[(0, .one (.c (.d (.sl (.int .u8) b))))], [], [], 0⟩ [] (by kernel_rfl) trivial ?_
  rcases iteS h with ⟨b347_e0, h⟩ | ⟨b347_e0, h⟩
  · refine At.step hm ht ⟨[], [true], [], [], []⟩ 2 ⟨[], [], [], 0⟩ [(decide ((((b.length : Nat) : Int) : Int) < 10)) = true] (by kernel_rfl) ⟨b347_e0, trivial⟩ ?_
    have h := Option.some.inj h
    subst h
    exact At.fin hm ht ⟨[], [], [.nil false 2 0 (.pair (.int .i64) (.pair (.int .i64) (.pair (.int .i64) (.slice (.int .u8))))) (some 82)], [2, 3], [2]⟩ [] (by kernel_rfl) trivial
  · refine At.step hm ht ⟨[], [false], [], [0], []⟩ 3 ⟨[(0, .one (.c (.d (.sl (.int .u8) b))))], [], [], 0⟩ [(decide ((((b.length : Nat) : Int) : Int) < 10)) = false] (by kernel_rfl) ⟨b347_e0, trivial⟩ ?_
    obtain ⟨g349_0, h⟩ := ifS h
    refine At.step hm ht ⟨[], [], [], [0, 4], []⟩ 4 ⟨[(0, .one (.c (.d (.sl (.int .u8) b)))), (4, .one (.c (.d (.sl (.int .u8) (b.take (IntKind.wrap .i64 (((b.length : Nat) : Int) - 4)).toNat)))))], [], [], 0⟩ [cutOk b.length none (some (IntKind.wrap .i64 (((b.length : Nat) : Int) - 4))) none] (by kernel_rfl) ⟨g349_0, trivial⟩ ?_
    obtain ⟨g350_0, h⟩ := ifS h
    obtain ⟨r350_1, cr350_1, h⟩ := bindS h
    refine At.step hm ht ⟨[(6, .call [] [] (f83_pack_All_out r350_1))], [], [], [4, 5, 6], [6]⟩ 5 ⟨[(4, .one (.c (.d (.sl (.int .u8) (b.take (IntKind.wrap .i64 (((b.length : Nat) : Int) - 4)).toNat))))), (5, .one (.c (.own 0 (.int .u64) r350_1.1))), (6, .one (.c (.d (.bool r350_1.2))))], [(0, some ⟨22, 0⟩)], [], 1⟩ [cutOk b.length (some (IntKind.wrap .i64 (((b.length : Nat) : Int) - 4))) none none, FnOK Go.Proofs.Try.prog 83 (f83_pack_All_in ((b.take b.length).drop (IntKind.wrap .i64 (((b.length : Nat) : Int) - 4)).toNat) [4]) (f83_pack_All_out r350_1)] (by kernel_rfl) ⟨g350_0, (f83_pack_All_ok n ((b.take b.length).drop (IntKind.wrap .i64 (((b.length : Nat) : Int) - 4)).toNat) [4] r350_1 cr350_1), trivial⟩ ?_
    rcases iteS h with ⟨b351_2, h⟩ | ⟨b351_2, h⟩
    · refine At.step hm ht ⟨[(2, .b true)], [true], [], [], []⟩ 6 ⟨[], [], [], 0⟩ [(!r350_1.2) = true, true = true] (by kernel_rfl) ⟨b351_2, rfl, trivial⟩ ?_
      have h := Option.some.inj h
      subst h
      exact At.fin hm ht ⟨[], [], [.nil false 2 0 (.pair (.int .i64) (.pair (.int .i64) (.pair (.int .i64) (.slice (.int .u8))))) (some 82)], [2, 3], [2]⟩ [] (by kernel_rfl) trivial
    · obtain ⟨g351_0, h⟩ := ifS h
      obtain ⟨r351_1, cr351_1, h⟩ := bindS h
      rcases iteS h with ⟨b351_e0, h⟩ | ⟨b351_e0, h⟩
      · refine At.step hm ht ⟨[(2, .b false), (8, .call [] [] (f25_capture_Sum_out r351_1))], [true], [], [], []⟩ 6 ⟨[], [], [], 0⟩ [(!r350_1.2) = false, (0 : Int) ≤ 0 ∧ 0 < (((r350_1.1).length : Nat) : Int), FnOK Go.Proofs.Try.prog 25 (f25_capture_Sum_in (b.take (IntKind.wrap .i64 (((b.length : Nat) : Int) - 4)).toNat)) (f25_capture_Sum_out r351_1), (((IntKind.wrap .u32 (r350_1.1.getD 0 0)) : Int) != r351_1) = true] (by kernel_rfl) ⟨b351_2, g351_0, (f25_capture_Sum_ok n (b.take (IntKind.wrap .i64 (((b.length : Nat) : Int) - 4)).toNat) r351_1 cr351_1), b351_e0, trivial⟩ ?_
        have h := Option.some.inj h
        subst h
        exact At.fin hm ht ⟨[], [], [.nil false 2 0 (.pair (.int .i64) (.pair (.int .i64) (.pair (.int .i64) (.slice (.int .u8))))) (some 82)], [2, 3], [2]⟩ [] (by kernel_rfl) trivial
      · refine At.step hm ht ⟨[(2, .b false), (8, .call [] [] (f25_capture_Sum_out r351_1))], [false], [], [4], []⟩ 7 ⟨[(4, .one (.c (.d (.sl (.int .u8) (b.take (IntKind.wrap .i64 (((b.length : Nat) : Int) - 4)).toNat)))))], [], [], 0⟩ [(!r350_1.2) = false, (0 : Int) ≤ 0 ∧ 0 < (((r350_1.1).length : Nat) : Int), FnOK Go.Proofs.Try.prog 25 (f25_capture_Sum_in (b.take (IntKind.wrap .i64 (((b.length : Nat) : Int) - 4)).toNat)) (f25_capture_Sum_out r351_1), (((IntKind.wrap .u32 (r350_1.1.getD 0 0)) : Int) != r351_1) = false] (by kernel_rfl) ⟨b351_2, g351_0, (f25_capture_Sum_ok n (b.take (IntKind.wrap .i64 (((b.length : Nat) : Int) - 4)).toNat) r351_1 cr351_1), b351_e0, trivial⟩ ?_
        obtain ⟨r354_0, cr354_0, h⟩ := bindS h
        refine At.step hm ht ⟨[(2, .call [] [] (f84_pack_Get_out r354_0))], [], [], [6, 7, 8], [2, 3]⟩ 8 ⟨[(6, .one (.c (.d (.bool r354_0.2.2)))), (7, .one (.c (.own 0 (.int .u64) r354_0.1))), (8, .one (.c (.own 1 (.int .u8) r354_0.2.1)))], [(0, some ⟨22, 0⟩), (1, some ⟨5, 0⟩)], [], 2⟩ [FnOK Go.Proofs.Try.prog 84 (f84_pack_Get_in (b.take (IntKind.wrap .i64 (((b.length : Nat) : Int) - 4)).toNat) [4, 2]) (f84_pack_Get_out r354_0)] (by kernel_rfl) ⟨(f84_pack_Get_ok n (b.take (IntKind.wrap .i64 (((b.length : Nat) : Int) - 4)).toNat) [4, 2] r354_0 cr354_0), trivial⟩ ?_
        rcases iteS h with ⟨b355_2, h⟩ | ⟨b355_2, h⟩
        · refine At.step hm ht ⟨[(2, .b true)], [true], [], [], []⟩ 9 ⟨[], [], [], 0⟩ [(!r354_0.2.2) = true, true = true] (by kernel_rfl) ⟨b355_2, rfl, trivial⟩ ?_
          have h := Option.some.inj h
          subst h
          exact At.fin hm ht ⟨[], [], [.nil false 2 0 (.pair (.int .i64) (.pair (.int .i64) (.pair (.int .i64) (.slice (.int .u8))))) (some 82)], [2, 3], [2]⟩ [] (by kernel_rfl) trivial
        · obtain ⟨g355_0, h⟩ := ifS h
          rcases iteS h with ⟨b355_8, h⟩ | ⟨b355_8, h⟩
          · refine At.step hm ht ⟨[(2, .b false), (8, .b true)], [true], [], [], []⟩ 9 ⟨[], [], [], 0⟩ [(!r354_0.2.2) = false, (0 : Int) ≤ 0 ∧ 0 < (((r354_0.1).length : Nat) : Int), (((r354_0.1.getD 0 0) : Int) != 1112690517) = true, true = true] (by kernel_rfl) ⟨b355_2, g355_0, b355_8, rfl, trivial⟩ ?_
            have h := Option.some.inj h
            subst h
            exact At.fin hm ht ⟨[], [], [.nil false 2 0 (.pair (.int .i64) (.pair (.int .i64) (.pair (.int .i64) (.slice (.int .u8))))) (some 82)], [2, 3], [2]⟩ [] (by kernel_rfl) trivial
          · obtain ⟨g355_1, h⟩ := ifS h
            rcases iteS h with ⟨b355_e0, h⟩ | ⟨b355_e0, h⟩
            · refine At.step hm ht ⟨[(2, .b false), (8, .b false)], [true], [], [], []⟩ 9 ⟨[], [], [], 0⟩ [(!r354_0.2.2) = false, (0 : Int) ≤ 0 ∧ 0 < (((r354_0.1).length : Nat) : Int), (((r354_0.1.getD 0 0) : Int) != 1112690517) = false, (0 : Int) ≤ 1 ∧ 1 < (((r354_0.1).length : Nat) : Int), (decide (((r354_0.1.getD 1 0) : Int) > 1024)) = true] (by kernel_rfl) ⟨b355_2, g355_0, b355_8, g355_1, b355_e0, trivial⟩ ?_
              have h := Option.some.inj h
              subst h
              exact At.fin hm ht ⟨[], [], [.nil false 2 0 (.pair (.int .i64) (.pair (.int .i64) (.pair (.int .i64) (.slice (.int .u8))))) (some 82)], [2, 3], [2]⟩ [] (by kernel_rfl) trivial
            · refine At.step hm ht ⟨[(2, .b false), (8, .b false)], [false], [], [7, 8], [0, 1]⟩ 10 ⟨[(7, .one (.c (.own 0 (.int .u64) r354_0.1))), (8, .one (.c (.own 1 (.int .u8) r354_0.2.1)))], [(0, some ⟨22, 0⟩), (1, some ⟨5, 0⟩)], [], 2⟩ [(!r354_0.2.2) = false, (0 : Int) ≤ 0 ∧ 0 < (((r354_0.1).length : Nat) : Int), (((r354_0.1.getD 0 0) : Int) != 1112690517) = false, (0 : Int) ≤ 1 ∧ 1 < (((r354_0.1).length : Nat) : Int), (decide (((r354_0.1.getD 1 0) : Int) > 1024)) = false] (by kernel_rfl) ⟨b355_2, g355_0, b355_8, g355_1, b355_e0, trivial⟩ ?_
              refine At.step hm ht ⟨[], [], [], [7, 8, 9], [0, 1]⟩ 11 ⟨[(7, .one (.c (.own 0 (.int .u64) r354_0.1))), (8, .one (.c (.own 1 (.int .u8) r354_0.2.1))), (9, .one (.c (.d (.sl .unit []))))], [(0, some ⟨22, 0⟩), (1, some ⟨5, 0⟩)], [], 2⟩ [] (by kernel_rfl) trivial ?_
              refine At.step hm ht ⟨[], [], [], [7, 8, 9, 10], [0, 1]⟩ 12 ⟨[(7, .one (.c (.own 0 (.int .u64) r354_0.1))), (8, .one (.c (.own 1 (.int .u8) r354_0.2.1))), (9, .one (.c (.d (.sl .unit [])))), (10, .one (.c (.d (.int .i64 0))))], [(0, some ⟨22, 0⟩), (1, some ⟨5, 0⟩)], [], 2⟩ [] (by kernel_rfl) trivial ?_
              obtain ⟨g361_0, h⟩ := ifS h
              refine At.step hm ht ⟨[], [], [.nil false 9 0 (.pair (.int .i64) (.pair (.int .i64) (.pair (.int .i64) (.slice (.int .u8))))) (some 82)], [8, 9, 10, 67, 68], [6]⟩ 13 ⟨[(8, .one (.c (.d (.sl (.int .u8) r354_0.2.1)))), (9, .one (.c (.own 0 (.pair (.int .i64) (.pair (.int .i64) (.pair (.int .i64) (.slice (.int .u8))))) []))), (10, .one (.c (.d (.int .i64 0)))), (67, .one (.c (.d (.int .u64 (r354_0.1.getD 1 0))))), (68, .one (.c (.d (.int .u64 0))))], [(0, some ⟨82, 0⟩)], [], 1⟩ [(0 : Int) ≤ 1 ∧ 1 < (((r354_0.1).length : Nat) : Int)] (by kernel_rfl) ⟨g361_0, trivial⟩ ?_
              obtain ⟨w373, cw373, h⟩ := bindS h
              refine f28_capture_Decode_L13_ok n r354_0.2.1 [] 0 (r354_0.1.getD 1 0) 0 w373 cw373 _ ?_
              rcases w373 with e374 | e375
              · have h := Option.some.inj h
                subst h
                rfl
              · show At Go.Proofs.Try.prog Go.Proofs.Try.f28 0 22 ⟨[(8, .one (.c (.d (.sl (.int .u8) e375.1)))), (9, .one (.c (.own 0 (.pair (.int .i64) (.pair (.int .i64) (.pair (.int .i64) (.slice (.int .u8))))) e375.2)))], [(0, some ⟨82, 0⟩)], [], 1⟩ _
                rcases iteS h with ⟨b376_3, h⟩ | ⟨b376_3, h⟩
                · refine At.step hm ht ⟨[(3, .b true)], [true], [], [], []⟩ 23 ⟨[], [], [], 0⟩ [(decide ((((e375.1.length : Nat) : Int) : Int) > 0)) = true, true = true] (by kernel_rfl) ⟨b376_3, rfl, trivial⟩ ?_
                  have h := Option.some.inj h
                  subst h
                  exact At.fin hm ht ⟨[], [], [.nil false 2 0 (.pair (.int .i64) (.pair (.int .i64) (.pair (.int .i64) (.slice (.int .u8))))) (some 82)], [2, 3], [2]⟩ [] (by kernel_rfl) trivial
                · obtain ⟨r376_0, cr376_0, h⟩ := bindS h
                  rcases iteS h with ⟨b376_e0, h⟩ | ⟨b376_e0, h⟩
                  · refine At.step hm ht ⟨[(3, .b false), (5, .call [] [] (f23_capture_Right_out r376_0))], [true], [], [], []⟩ 23 ⟨[], [], [], 0⟩ [(decide ((((e375.1.length : Nat) : Int) : Int) > 0)) = false, FnOK Go.Proofs.Try.prog 23 (f23_capture_Right_in e375.2) (f23_capture_Right_out r376_0), (!r376_0) = true] (by kernel_rfl) ⟨b376_3, (f23_capture_Right_ok n e375.2 r376_0 cr376_0), b376_e0, trivial⟩ ?_
                    have h := Option.some.inj h
                    subst h
                    exact At.fin hm ht ⟨[], [], [.nil false 2 0 (.pair (.int .i64) (.pair (.int .i64) (.pair (.int .i64) (.slice (.int .u8))))) (some 82)], [2, 3], [2]⟩ [] (by kernel_rfl) trivial
                  · refine At.step hm ht ⟨[(3, .b false), (5, .call [] [] (f23_capture_Right_out r376_0))], [false], [], [9], [0]⟩ 24 ⟨[(9, .one (.c (.own 0 (.pair (.int .i64) (.pair (.int .i64) (.pair (.int .i64) (.slice (.int .u8))))) e375.2)))], [(0, some ⟨82, 0⟩)], [], 1⟩ [(decide ((((e375.1.length : Nat) : Int) : Int) > 0)) = false, FnOK Go.Proofs.Try.prog 23 (f23_capture_Right_in e375.2) (f23_capture_Right_out r376_0), (!r376_0) = false] (by kernel_rfl) ⟨b376_3, (f23_capture_Right_ok n e375.2 r376_0 cr376_0), b376_e0, trivial⟩ ?_
                    have h := Option.some.inj h
                    subst h
                    exact At.fin hm ht ⟨[], [], [], [2, 3], [0]⟩ [] (by kernel_rfl) trivial
/-! brougham/broughamref02.Get -/
def f125_broughamref02_Get_in (b : List Int) (bytes : Int) : Inn := ⟨[.c (.d (.sl (.int .u8) b)), .c (.d (.int .i64 bytes))], [], [], 0⟩
def f125_broughamref02_Get_out (r : Int × List Int × Bool) : Out := ⟨.tup [.c (.d (.int .u64 r.1)), .c (.d (.sl (.int .u8) r.2.1)), .c (.d (.bool r.2.2))], [], [], 0⟩
def f125_broughamref02_Get_L5 : Nat → (List Int) → Int → Int → Int → Option (List Int × Int × Int)
  | 0, _, _, _, _ => none
  | n + 1, b, bytes, n_, i =>
    if (decide ((i : Int) < bytes)) = true then
      if (0 : Int) ≤ i ∧ i < (((b).length : Nat) : Int) then
      f125_broughamref02_Get_L5 n b bytes (IntKind.wrap .u64 ((IntKind.wrap .u64 (n_ * 256)) + (IntKind.wrap .u64 (b.getD i.toNat 0)))) (IntKind.wrap .i64 (i + 1))
      else none
    else
      some ((b, bytes, n_))
def f125_broughamref02_Get_L5_k (e : List Int × Int × Int) (o : Out) : Prop := At Go.Proofs.Try.prog Go.Proofs.Try.f125 0 8 ⟨[(0, .one (.c (.d (.sl (.int .u8) e.1)))), (1, .one (.c (.d (.int .i64 e.2.1)))), (7, .one (.c (.d (.int .u64 e.2.2))))], [], [], 0⟩ o
theorem f125_broughamref02_Get_L5_ok (n : Nat) : ∀ (b : List Int) (bytes : Int) (n_ : Int) (i : Int) (w : List Int × Int × Int) (h : f125_broughamref02_Get_L5 n b bytes n_ i = some w) (o : Out) (hk : f125_broughamref02_Get_L5_k w o), At Go.Proofs.Try.prog Go.Proofs.Try.f125 0 5 ⟨[(0, .one (.c (.d (.sl (.int .u8) b)))), (1, .one (.c (.d (.int .i64 bytes)))), (7, .one (.c (.d (.int .u64 n_)))), (8, .one (.c (.d (.int .i64 i))))], [], [], 0⟩ o := by
  induction n with
  | zero => intro b bytes n_ i w h; rw [f125_broughamref02_Get_L5] at h; cases h
  | succ n ih =>
    intro b bytes n_ i w h o hk
    rw [f125_broughamref02_Get_L5] at h
    rcases iteS h with ⟨b408_e0, h⟩ | ⟨b408_e0, h⟩
    · refine At.step hm ht ⟨[], [true], [], [0, 1, 7, 8], []⟩ 7 ⟨[(0, .one (.c (.d (.sl (.int .u8) b)))), (1, .one (.c (.d (.int .i64 bytes)))), (7, .one (.c (.d (.int .u64 n_)))), (8, .one (.c (.d (.int .i64 i))))], [], [], 0⟩ [(decide ((i : Int) < bytes)) = true] (by kernel_rfl) ⟨b408_e0, trivial⟩ ?_
      obtain ⟨g409_0, h⟩ := ifS h
      refine At.step hm ht ⟨[], [], [], [0, 1, 7, 8], []⟩ 6 ⟨[(0, .one (.c (.d (.sl (.int .u8) b)))), (1, .one (.c (.d (.int .i64 bytes)))), (7, .one (.c (.d (.int .u64 (IntKind.wrap .u64 ((IntKind.wrap .u64 (n_ * 256)) + (IntKind.wrap .u64 (b.getD i.toNat 0)))))))), (8, .one (.c (.d (.int .i64 i))))], [], [], 0⟩ [(0 : Int) ≤ i ∧ i < (((b).length : Nat) : Int)] (by kernel_rfl) ⟨g409_0, trivial⟩ ?_
      refine At.step hm ht ⟨[], [], [], [0, 1, 7, 8], []⟩ 5 ⟨[(0, .one (.c (.d (.sl (.int .u8) b)))), (1, .one (.c (.d (.int .i64 bytes)))), (7, .one (.c (.d (.int .u64 (IntKind.wrap .u64 ((IntKind.wrap .u64 (n_ * 256)) + (IntKind.wrap .u64 (b.getD i.toNat 0)))))))), (8, .one (.c (.d (.int .i64 (IntKind.wrap .i64 (i + 1))))))], [], [], 0⟩ [] (by kernel_rfl) trivial ?_
      exact ih b bytes (IntKind.wrap .u64 ((IntKind.wrap .u64 (n_ * 256)) + (IntKind.wrap .u64 (b.getD i.toNat 0)))) (IntKind.wrap .i64 (i + 1)) w h o hk
    · refine At.step hm ht ⟨[], [false], [], [0, 1, 7], []⟩ 8 ⟨[(0, .one (.c (.d (.sl (.int .u8) b)))), (1, .one (.c (.d (.int .i64 bytes)))), (7, .one (.c (.d (.int .u64 n_))))], [], [], 0⟩ [(decide ((i : Int) < bytes)) = false] (by kernel_rfl) ⟨b408_e0, trivial⟩ ?_
      have h := Option.some.inj h
      subst h
      exact hk
def f125_broughamref02_Get (n : Nat) (b : List Int) (bytes : Int) : Option (Int × List Int × Bool) :=
  if (decide ((bytes : Int) < 1)) = true then
    some (0, [], false)
  else
    if (decide ((bytes : Int) > 8)) = true then
      some (0, [], false)
    else
      if (decide ((((b.length : Nat) : Int) : Int) < bytes)) = true then
        some (0, [], false)
      else
        (f125_broughamref02_Get_L5 n b bytes 0 0).bind fun w411 =>
        if cutOk w411.1.length (some w411.2.1) none none then
        some (w411.2.2, ((w411.1.take w411.1.length).drop w411.2.1.toNat), true)
        else none
theorem f125_broughamref02_Get_ok (n : Nat) (b : List Int) (bytes : Int) (r : Int × List Int × Bool) (h : f125_broughamref02_Get n b bytes = some r) : FnOK Go.Proofs.Try.prog 125 (f125_broughamref02_Get_in b bytes) (f125_broughamref02_Get_out r) := by
  unfold f125_broughamref02_Get at h
  refine At.fn (r := 0) Go.Proofs.Try.func125 rfl (by kernel_rfl) rfl rfl (by kernel_rfl) ?_
  show At Go.Proofs.Try.prog Go.Proofs.Try.f125 0 0 ⟨[(0, .one (.c (.d (.sl (.int .u8) b)))), (1, .one (.c (.d (.int .i64 bytes))))], [], [], 0⟩ _
  refine At.step hm ht ⟨[], [], [], [0, 1], []⟩ 1 ⟨[(0, .one (.c (.d (.sl (.int .u8) b)))), (1, .one (.c (.d (.int .i64 bytes))))], [], [], 0⟩ [] (by kernel_rfl) trivial ?_
  rcases iteS h with ⟨b402_2, h⟩ | ⟨b402_2, h⟩
  · refine At.step hm ht ⟨[(2, .b true)], [true], [], [], []⟩ 2 ⟨[], [], [], 0⟩ [(decide ((bytes : Int) < 1)) = true, true = true] (by kernel_rfl) ⟨b402_2, rfl, trivial⟩ ?_
    have h := Option.some.inj h
    subst h
    exact At.fin hm ht ⟨[], [], [.nil false 5 0 (.int .u8) none], [4, 5, 6], []⟩ [] (by kernel_rfl) trivial
  · rcases iteS h with ⟨b402_6, h⟩ | ⟨b402_6, h⟩
    · refine At.step hm ht ⟨[(2, .b false), (6, .b true)], [true], [], [], []⟩ 2 ⟨[], [], [], 0⟩ [(decide ((bytes : Int) < 1)) = false, (decide ((bytes : Int) > 8)) = true, true = true] (by kernel_rfl) ⟨b402_2, b402_6, rfl, trivial⟩ ?_
      have h := Option.some.inj h
      subst h
      exact At.fin hm ht ⟨[], [], [.nil false 5 0 (.int .u8) none], [4, 5, 6], []⟩ [] (by kernel_rfl) trivial
    · rcases iteS h with ⟨b402_e0, h⟩ | ⟨b402_e0, h⟩
      · refine At.step hm ht ⟨[(2, .b false), (6, .b false)], [true], [], [], []⟩ 2 ⟨[], [], [], 0⟩ [(decide ((bytes : Int) < 1)) = false, (decide ((bytes : Int) > 8)) = false, (decide ((((b.length : Nat) : Int) : Int) < bytes)) = true] (by kernel_rfl) ⟨b402_2, b402_6, b402_e0, trivial⟩ ?_
        have h := Option.some.inj h
        subst h
        exact At.fin hm ht ⟨[], [], [.nil false 5 0 (.int .u8) none], [4, 5, 6], []⟩ [] (by kernel_rfl) trivial
      · refine At.step hm ht ⟨[(2, .b false), (6, .b false)], [false], [], [0, 1], []⟩ 3 ⟨[(0, .one (.c (.d (.sl (.int .u8) b)))), (1, .one (.c (.d (.int .i64 bytes))))], [], [], 0⟩ [(decide ((bytes : Int) < 1)) = false, (decide ((bytes : Int) > 8)) = false, (decide ((((b.length : Nat) : Int) : Int) < bytes)) = false] (by kernel_rfl) ⟨b402_2, b402_6, b402_e0, trivial⟩ ?_
        refine At.step hm ht ⟨[], [], [], [0, 1, 7], []⟩ 4 ⟨[(0, .one (.c (.d (.sl (.int .u8) b)))), (1, .one (.c (.d (.int .i64 bytes)))), (7, .one (.c (.d (.int .u64 0))))], [], [], 0⟩ [] (by kernel_rfl) trivial ?_
        refine At.step hm ht ⟨[], [], [], [0, 1, 7, 8], []⟩ 5 ⟨[(0, .one (.c (.d (.sl (.int .u8) b)))), (1, .one (.c (.d (.int .i64 bytes)))), (7, .one (.c (.d (.int .u64 0)))), (8, .one (.c (.d (.int .i64 0))))], [], [], 0⟩ [] (by kernel_rfl) trivial ?_
        obtain ⟨w411, cw411, h⟩ := bindS h
        refine f125_broughamref02_Get_L5_ok n b bytes 0 0 w411 cw411 _ ?_
        show At Go.Proofs.Try.prog Go.Proofs.Try.f125 0 8 ⟨[(0, .one (.c (.d (.sl (.int .u8) w411.1)))), (1, .one (.c (.d (.int .i64 w411.2.1)))), (7, .one (.c (.d (.int .u64 w411.2.2))))], [], [], 0⟩ _
        obtain ⟨g413_0, h⟩ := ifS h
        have h := Option.some.inj h
        subst h
        exact At.fin hm ht ⟨[], [], [], [4, 5, 6], []⟩ [cutOk w411.1.length (some w411.2.1) none none] (by kernel_rfl) ⟨g413_0, trivial⟩
/-! brougham/broughamref02.All -/
def f85_broughamref02_All_in (b : List Int) (sizes : List Int) : Inn := ⟨[.c (.d (.sl (.int .u8) b)), .c (.d (.sl (.int .i64) sizes))], [], [], 0⟩
def f85_broughamref02_All_out (r : List Int × List Int × Bool) : Out := ⟨.tup [.c (.own 0 (.int .u64) r.1), .c (.d (.sl (.int .u8) r.2.1)), .c (.d (.bool r.2.2))], [(0, ⟨22, 0⟩)], [], 1⟩
def f85_broughamref02_All_L3 : Nat → (List Int) → (List Int) → (List Int) → Int → Option ((List Int × List Int × Bool) ⊕ (List Int × List Int))
  | 0, _, _, _, _ => none
  | n + 1, b, sizes, out, i =>
    if (decide ((i : Int) < ((sizes.length : Nat) : Int))) = true then
      if (0 : Int) ≤ i ∧ i < (((sizes).length : Nat) : Int) then
      (f125_broughamref02_Get n b (sizes.getD i.toNat 0)).bind fun r437_1 =>
      if (!r437_1.2.2) = true then
        some (.inl ([], [], false))
      else
        if out.length + [r437_1.1].length ≤ maxLen ∧ (out.length + [r437_1.1].length) * 8 ≤ 140737488355328 then
        f85_broughamref02_All_L3 n r437_1.2.1 sizes (out ++ [r437_1.1]) (IntKind.wrap .i64 (i + 1))
        else none
      else none
    else
      some (.inr ((b, out)))
def f85_broughamref02_All_L3_k (w : (List Int × List Int × Bool) ⊕ (List Int × List Int)) (o : Out) : Prop := match w with
  | .inl e => o = f85_broughamref02_All_out e
  | .inr e => At Go.Proofs.Try.prog Go.Proofs.Try.f85 0 10 ⟨[(0, .one (.c (.d (.sl (.int .u8) e.1)))), (7, .one (.c (.own 0 (.int .u64) e.2)))], [(0, some ⟨22, 0⟩)], [], 1⟩ o
theorem f85_broughamref02_All_L3_ok (n : Nat) : ∀ (b : List Int) (sizes : List Int) (out : List Int) (i : Int) (w : (List Int × List Int × Bool) ⊕ (List Int × List Int)) (h : f85_broughamref02_All_L3 n b sizes out i = some w) (o : Out) (hk : f85_broughamref02_All_L3_k w o), At Go.Proofs.Try.prog Go.Proofs.Try.f85 0 3 ⟨[(0, .one (.c (.d (.sl (.int .u8) b)))), (1, .one (.c (.d (.sl (.int .i64) sizes)))), (7, .one (.c (.own 0 (.int .u64) out))), (8, .one (.c (.d (.int .i64 i))))], [(0, some ⟨22, 0⟩)], [], 1⟩ o := by
  induction n with
  | zero => intro b sizes out i w h; rw [f85_broughamref02_All_L3] at h; cases h
  | succ n ih =>
    intro b sizes out i w h o hk
    rw [f85_broughamref02_All_L3] at h
    rcases iteS h with ⟨b436_e0, h⟩ | ⟨b436_e0, h⟩
    · refine At.step hm ht ⟨[], [true], [], [0, 1, 7, 8], [0]⟩ 5 ⟨[(0, .one (.c (.d (.sl (.int .u8) b)))), (1, .one (.c (.d (.sl (.int .i64) sizes)))), (7, .one (.c (.own 0 (.int .u64) out))), (8, .one (.c (.d (.int .i64 i))))], [(0, some ⟨22, 0⟩)], [], 1⟩ [(decide ((i : Int) < ((sizes.length : Nat) : Int))) = true] (by kernel_rfl) ⟨b436_e0, trivial⟩ ?_
      obtain ⟨g437_0, h⟩ := ifS h
      obtain ⟨r437_1, cr437_1, h⟩ := bindS h
      refine At.step hm ht ⟨[(5, .call [] [] (f125_broughamref02_Get_out r437_1))], [], [], [1, 7, 8, 9, 10, 11], [0]⟩ 6 ⟨[(1, .one (.c (.d (.sl (.int .i64) sizes)))), (7, .one (.c (.own 0 (.int .u64) out))), (8, .one (.c (.d (.int .i64 i)))), (9, .one (.c (.d (.int .u64 r437_1.1)))), (10, .one (.c (.d (.sl (.int .u8) r437_1.2.1)))), (11, .one (.c (.d (.bool r437_1.2.2))))], [(0, some ⟨22, 0⟩)], [], 1⟩ [(0 : Int) ≤ i ∧ i < (((sizes).length : Nat) : Int), FnOK Go.Proofs.Try.prog 125 (f125_broughamref02_Get_in b (sizes.getD i.toNat 0)) (f125_broughamref02_Get_out r437_1)] (by kernel_rfl) ⟨g437_0, (f125_broughamref02_Get_ok n b (sizes.getD i.toNat 0) r437_1 cr437_1), trivial⟩ ?_
      rcases iteS h with ⟨b438_e0, h⟩ | ⟨b438_e0, h⟩
      · refine At.step hm ht ⟨[], [true], [], [], []⟩ 7 ⟨[], [], [], 0⟩ [(!r437_1.2.2) = true] (by kernel_rfl) ⟨b438_e0, trivial⟩ ?_
        have h := Option.some.inj h
        subst h
        have hk : o = f85_broughamref02_All_out ([], [], false) := hk
        subst hk
        exact At.fin hm ht ⟨[], [], [.nil false 4 0 (.int .u64) (some 22), .nil false 5 0 (.int .u8) none], [4, 5, 6], [3]⟩ [] (by kernel_rfl) trivial
      · refine At.step hm ht ⟨[], [false], [], [1, 7, 8, 9, 10], [0]⟩ 8 ⟨[(1, .one (.c (.d (.sl (.int .i64) sizes)))), (7, .one (.c (.own 0 (.int .u64) out))), (8, .one (.c (.d (.int .i64 i)))), (9, .one (.c (.d (.int .u64 r437_1.1)))), (10, .one (.c (.d (.sl (.int .u8) r437_1.2.1))))], [(0, some ⟨22, 0⟩)], [], 1⟩ [(!r437_1.2.2) = false] (by kernel_rfl) ⟨b438_e0, trivial⟩ ?_
        obtain ⟨g440_0, h⟩ := ifS h
        refine At.step hm ht ⟨[], [], [], [1, 7, 8, 10], [4]⟩ 9 ⟨[(1, .one (.c (.d (.sl (.int .i64) sizes)))), (7, .one (.c (.own 0 (.int .u64) (out ++ [r437_1.1])))), (8, .one (.c (.d (.int .i64 i)))), (10, .one (.c (.d (.sl (.int .u8) r437_1.2.1))))], [(0, some ⟨22, 0⟩)], [], 1⟩ [out.length + [r437_1.1].length ≤ maxLen ∧ (out.length + [r437_1.1].length) * 8 ≤ 140737488355328] (by kernel_rfl) ⟨g440_0, trivial⟩ ?_
        refine At.step hm ht ⟨[], [], [], [0, 1, 7, 8], [0]⟩ 4 ⟨[(0, .one (.c (.d (.sl (.int .u8) r437_1.2.1)))), (1, .one (.c (.d (.sl (.int .i64) sizes)))), (7, .one (.c (.own 0 (.int .u64) (out ++ [r437_1.1])))), (8, .one (.c (.d (.int .i64 i))))], [(0, some ⟨22, 0⟩)], [], 1⟩ [] (by kernel_rfl) trivial ?_
        refine At.step hm ht ⟨[], [], [], [0, 1, 7, 8], [0]⟩ 3 ⟨[(0, .one (.c (.d (.sl (.int .u8) r437_1.2.1)))), (1, .one (.c (.d (.sl (.int .i64) sizes)))), (7, .one (.c (.own 0 (.int .u64) (out ++ [r437_1.1])))), (8, .one (.c (.d (.int .i64 (IntKind.wrap .i64 (i + 1))))))], [(0, some ⟨22, 0⟩)], [], 1⟩ [] (by kernel_rfl) trivial ?_
        exact ih r437_1.2.1 sizes (out ++ [r437_1.1]) (IntKind.wrap .i64 (i + 1)) w h o hk
    · refine At.step hm ht ⟨[], [false], [], [0, 7], [0]⟩ 10 ⟨[(0, .one (.c (.d (.sl (.int .u8) b)))), (7, .one (.c (.own 0 (.int .u64) out)))], [(0, some ⟨22, 0⟩)], [], 1⟩ [(decide ((i : Int) < ((sizes.length : Nat) : Int))) = false] (by kernel_rfl) ⟨b436_e0, trivial⟩ ?_
      have h := Option.some.inj h
      subst h
      exact hk
def f85_broughamref02_All (n : Nat) (b : List Int) (sizes : List Int) : Option (List Int × List Int × Bool) :=
  (f85_broughamref02_All_L3 n b sizes [] 0).bind fun w443 =>
  match w443 with
  | .inl e444 =>
    some (e444.1, e444.2.1, e444.2.2)
  | .inr e445 =>
    some (e445.2, e445.1, true)
theorem f85_broughamref02_All_ok (n : Nat) (b : List Int) (sizes : List Int) (r : List Int × List Int × Bool) (h : f85_broughamref02_All n b sizes = some r) : FnOK Go.Proofs.Try.prog 85 (f85_broughamref02_All_in b sizes) (f85_broughamref02_All_out r) := by
  unfold f85_broughamref02_All at h
  refine At.fn (r := 0) Go.Proofs.Try.func85 rfl (by kernel_rfl) rfl rfl (by kernel_rfl) ?_
  show At Go.Proofs.Try.prog Go.Proofs.Try.f85 0 0 ⟨[(0, .one (.c (.d (.sl (.int .u8) b)))), (1, .one (.c (.d (.sl (.int .i64) sizes))))], [], [], 0⟩ _
  refine At.step hm ht ⟨[], [], [], [0, 1], []⟩ 1 ⟨[(0, .one (.c (.d (.sl (.int .u8) b)))), (1, .one (.c (.d (.sl (.int .i64) sizes))))], [], [], 0⟩ [] (by kernel_rfl) trivial ?_
  refine At.step hm ht ⟨[], [], [], [0, 1, 7], []⟩ 2 ⟨[(0, .one (.c (.d (.sl (.int .u8) b)))), (1, .one (.c (.d (.sl (.int .i64) sizes)))), (7, .one (.c (.d (.sl .unit []))))], [], [], 0⟩ [] (by kernel_rfl) trivial ?_
  refine At.step hm ht ⟨[], [], [.nil false 7 0 (.int .u64) (some 22)], [0, 1, 7, 8], [1]⟩ 3 ⟨[(0, .one (.c (.d (.sl (.int .u8) b)))), (1, .one (.c (.d (.sl (.int .i64) sizes)))), (7, .one (.c (.own 0 (.int .u64) []))), (8, .one (.c (.d (.int .i64 0))))], [(0, some ⟨22, 0⟩)], [], 1⟩ [] (by kernel_rfl) trivial ?_
  obtain ⟨w443, cw443, h⟩ := bindS h
  refine f85_broughamref02_All_L3_ok n b sizes [] 0 w443 cw443 _ ?_
  rcases w443 with e444 | e445
  · have h := Option.some.inj h
    subst h
    rfl
  · show At Go.Proofs.Try.prog Go.Proofs.Try.f85 0 10 ⟨[(0, .one (.c (.d (.sl (.int .u8) e445.1)))), (7, .one (.c (.own 0 (.int .u64) e445.2)))], [(0, some ⟨22, 0⟩)], [], 1⟩ _
    have h := Option.some.inj h
    subst h
    exact At.fin hm ht ⟨[], [], [], [4, 5, 6], [0]⟩ [] (by kernel_rfl) trivial
/-! brougham/broughamlaw34.same -/
def f30_broughamlaw34_same_in (a : List (Int × Int × Int × ByteArray)) (b : List (Int × Int × Int × ByteArray)) : Inn := ⟨[.c (.d (.sl (.pair (.int .i64) (.pair (.int .i64) (.pair (.int .i64) .str))) a)), .c (.d (.sl (.pair (.int .i64) (.pair (.int .i64) (.pair (.int .i64) .str))) b))], [], [], 0⟩
def f30_broughamlaw34_same_out (r : Bool) : Out := ⟨.one (.c (.d (.bool r))), [], [], 0⟩
def f30_broughamlaw34_same_L4 : Nat → (List (Int × Int × Int × ByteArray)) → (List (Int × Int × Int × ByteArray)) → Int → Option ((Bool) ⊕ (Unit))
  | 0, _, _, _ => none
  | n + 1, a, b, i =>
    if (decide ((i : Int) < ((a.length : Nat) : Int))) = true then
      if (0 : Int) ≤ i ∧ i < (((a).length : Nat) : Int) then
      if (0 : Int) ≤ i ∧ i < (((b).length : Nat) : Int) then
      if (!(((((a.getD i.toNat (0, (0, (0, ByteArray.empty)))).1) : Int) == ((b.getD i.toNat (0, (0, (0, ByteArray.empty)))).1)) && ((((((a.getD i.toNat (0, (0, (0, ByteArray.empty)))).2).1) : Int) == (((b.getD i.toNat (0, (0, (0, ByteArray.empty)))).2).1)) && (((((((a.getD i.toNat (0, (0, (0, ByteArray.empty)))).2).2).1) : Int) == ((((b.getD i.toNat (0, (0, (0, ByteArray.empty)))).2).2).1)) && (((((a.getD i.toNat (0, (0, (0, ByteArray.empty)))).2).2).2).toList == ((((b.getD i.toNat (0, (0, (0, ByteArray.empty)))).2).2).2).toList))))) = true then
        some (.inl false)
      else
        f30_broughamlaw34_same_L4 n a b (IntKind.wrap .i64 (i + 1))
      else none
      else none
    else
      some (.inr ())
def f30_broughamlaw34_same_L4_k (w : (Bool) ⊕ (Unit)) (o : Out) : Prop := match w with
  | .inl e => o = f30_broughamlaw34_same_out e
  | .inr e => At Go.Proofs.Try.prog Go.Proofs.Try.f30 0 8 ⟨[], [], [], 0⟩ o
theorem f30_broughamlaw34_same_L4_ok (n : Nat) : ∀ (a : List (Int × Int × Int × ByteArray)) (b : List (Int × Int × Int × ByteArray)) (i : Int) (w : (Bool) ⊕ (Unit)) (h : f30_broughamlaw34_same_L4 n a b i = some w) (o : Out) (hk : f30_broughamlaw34_same_L4_k w o), At Go.Proofs.Try.prog Go.Proofs.Try.f30 0 4 ⟨[(0, .one (.c (.d (.sl (.pair (.int .i64) (.pair (.int .i64) (.pair (.int .i64) .str))) a)))), (1, .one (.c (.d (.sl (.pair (.int .i64) (.pair (.int .i64) (.pair (.int .i64) .str))) b)))), (5, .one (.c (.d (.int .i64 i))))], [], [], 0⟩ o := by
  induction n with
  | zero => intro a b i w h; rw [f30_broughamlaw34_same_L4] at h; cases h
  | succ n ih =>
    intro a b i w h o hk
    rw [f30_broughamlaw34_same_L4] at h
    rcases iteS h with ⟨b499_e0, h⟩ | ⟨b499_e0, h⟩
    · refine At.step hm ht ⟨[], [true], [], [0, 1, 5], []⟩ 6 ⟨[(0, .one (.c (.d (.sl (.pair (.int .i64) (.pair (.int .i64) (.pair (.int .i64) .str))) a)))), (1, .one (.c (.d (.sl (.pair (.int .i64) (.pair (.int .i64) (.pair (.int .i64) .str))) b)))), (5, .one (.c (.d (.int .i64 i))))], [], [], 0⟩ [(decide ((i : Int) < ((a.length : Nat) : Int))) = true] (by kernel_rfl) ⟨b499_e0, trivial⟩ ?_
      obtain ⟨g500_0, h⟩ := ifS h
      obtain ⟨g500_1, h⟩ := ifS h
      rcases iteS h with ⟨b500_e0, h⟩ | ⟨b500_e0, h⟩
      · refine At.step hm ht ⟨[], [true], [], [], []⟩ 7 ⟨[], [], [], 0⟩ [(0 : Int) ≤ i ∧ i < (((a).length : Nat) : Int), (0 : Int) ≤ i ∧ i < (((b).length : Nat) : Int), (!(((((a.getD i.toNat (0, (0, (0, ByteArray.empty)))).1) : Int) == ((b.getD i.toNat (0, (0, (0, ByteArray.empty)))).1)) && ((((((a.getD i.toNat (0, (0, (0, ByteArray.empty)))).2).1) : Int) == (((b.getD i.toNat (0, (0, (0, ByteArray.empty)))).2).1)) && (((((((a.getD i.toNat (0, (0, (0, ByteArray.empty)))).2).2).1) : Int) == ((((b.getD i.toNat (0, (0, (0, ByteArray.empty)))).2).2).1)) && (((((a.getD i.toNat (0, (0, (0, ByteArray.empty)))).2).2).2).toList == ((((b.getD i.toNat (0, (0, (0, ByteArray.empty)))).2).2).2).toList))))) = true] (by kernel_rfl) ⟨g500_0, g500_1, b500_e0, trivial⟩ ?_
        have h := Option.some.inj h
        subst h
        have hk : o = f30_broughamlaw34_same_out false := hk
        subst hk
        exact At.fin hm ht ⟨[], [], [], [4], []⟩ [] (by kernel_rfl) trivial
      · refine At.step hm ht ⟨[], [false], [], [0, 1, 5], []⟩ 5 ⟨[(0, .one (.c (.d (.sl (.pair (.int .i64) (.pair (.int .i64) (.pair (.int .i64) .str))) a)))), (1, .one (.c (.d (.sl (.pair (.int .i64) (.pair (.int .i64) (.pair (.int .i64) .str))) b)))), (5, .one (.c (.d (.int .i64 i))))], [], [], 0⟩ [(0 : Int) ≤ i ∧ i < (((a).length : Nat) : Int), (0 : Int) ≤ i ∧ i < (((b).length : Nat) : Int), (!(((((a.getD i.toNat (0, (0, (0, ByteArray.empty)))).1) : Int) == ((b.getD i.toNat (0, (0, (0, ByteArray.empty)))).1)) && ((((((a.getD i.toNat (0, (0, (0, ByteArray.empty)))).2).1) : Int) == (((b.getD i.toNat (0, (0, (0, ByteArray.empty)))).2).1)) && (((((((a.getD i.toNat (0, (0, (0, ByteArray.empty)))).2).2).1) : Int) == ((((b.getD i.toNat (0, (0, (0, ByteArray.empty)))).2).2).1)) && (((((a.getD i.toNat (0, (0, (0, ByteArray.empty)))).2).2).2).toList == ((((b.getD i.toNat (0, (0, (0, ByteArray.empty)))).2).2).2).toList))))) = false] (by kernel_rfl) ⟨g500_0, g500_1, b500_e0, trivial⟩ ?_
        refine At.step hm ht ⟨[], [], [], [0, 1, 5], []⟩ 4 ⟨[(0, .one (.c (.d (.sl (.pair (.int .i64) (.pair (.int .i64) (.pair (.int .i64) .str))) a)))), (1, .one (.c (.d (.sl (.pair (.int .i64) (.pair (.int .i64) (.pair (.int .i64) .str))) b)))), (5, .one (.c (.d (.int .i64 (IntKind.wrap .i64 (i + 1))))))], [], [], 0⟩ [] (by kernel_rfl) trivial ?_
        exact ih a b (IntKind.wrap .i64 (i + 1)) w h o hk
    · refine At.step hm ht ⟨[], [false], [], [], []⟩ 8 ⟨[], [], [], 0⟩ [(decide ((i : Int) < ((a.length : Nat) : Int))) = false] (by kernel_rfl) ⟨b499_e0, trivial⟩ ?_
      have h := Option.some.inj h
      subst h
      exact hk
def f30_broughamlaw34_same (n : Nat) (a : List (Int × Int × Int × ByteArray)) (b : List (Int × Int × Int × ByteArray)) : Option (Bool) :=
  if ((((a.length : Nat) : Int) : Int) != ((b.length : Nat) : Int)) = true then
    some false
  else
    (f30_broughamlaw34_same_L4 n a b 0).bind fun w503 =>
    match w503 with
    | .inl e504 =>
      some e504
    | .inr e505 =>
      some true
theorem f30_broughamlaw34_same_ok (n : Nat) (a : List (Int × Int × Int × ByteArray)) (b : List (Int × Int × Int × ByteArray)) (r : Bool) (h : f30_broughamlaw34_same n a b = some r) : FnOK Go.Proofs.Try.prog 30 (f30_broughamlaw34_same_in a b) (f30_broughamlaw34_same_out r) := by
  unfold f30_broughamlaw34_same at h
  refine At.fn (r := 0) Go.Proofs.Try.func30 rfl (by kernel_rfl) rfl rfl (by kernel_rfl) ?_
  show At Go.Proofs.Try.prog Go.Proofs.Try.f30 0 0 ⟨[(0, .one (.c (.d (.sl (.pair (.int .i64) (.pair (.int .i64) (.pair (.int .i64) .str))) a)))), (1, .one (.c (.d (.sl (.pair (.int .i64) (.pair (.int .i64) (.pair (.int .i64) .str))) b))))], [], [], 0⟩ _
  refine At.step hm ht ⟨[], [], [], [0, 1], []⟩ 1 ⟨[(0, .one (.c (.d (.sl (.pair (.int .i64) (.pair (.int .i64) (.pair (.int .i64) .str))) a)))), (1, .one (.c (.d (.sl (.pair (.int .i64) (.pair (.int .i64) (.pair (.int .i64) .str))) b))))], [], [], 0⟩ [] (by kernel_rfl) trivial ?_
  rcases iteS h with ⟨b496_e0, h⟩ | ⟨b496_e0, h⟩
  · refine At.step hm ht ⟨[], [true], [], [], []⟩ 2 ⟨[], [], [], 0⟩ [((((a.length : Nat) : Int) : Int) != ((b.length : Nat) : Int)) = true] (by kernel_rfl) ⟨b496_e0, trivial⟩ ?_
    have h := Option.some.inj h
    subst h
    exact At.fin hm ht ⟨[], [], [], [4], []⟩ [] (by kernel_rfl) trivial
  · refine At.step hm ht ⟨[], [false], [], [0, 1], []⟩ 3 ⟨[(0, .one (.c (.d (.sl (.pair (.int .i64) (.pair (.int .i64) (.pair (.int .i64) .str))) a)))), (1, .one (.c (.d (.sl (.pair (.int .i64) (.pair (.int .i64) (.pair (.int .i64) .str))) b))))], [], [], 0⟩ [((((a.length : Nat) : Int) : Int) != ((b.length : Nat) : Int)) = false] (by kernel_rfl) ⟨b496_e0, trivial⟩ ?_
    refine At.step hm ht ⟨[], [], [], [0, 1, 5], []⟩ 4 ⟨[(0, .one (.c (.d (.sl (.pair (.int .i64) (.pair (.int .i64) (.pair (.int .i64) .str))) a)))), (1, .one (.c (.d (.sl (.pair (.int .i64) (.pair (.int .i64) (.pair (.int .i64) .str))) b)))), (5, .one (.c (.d (.int .i64 0))))], [], [], 0⟩ [] (by kernel_rfl) trivial ?_
    obtain ⟨w503, cw503, h⟩ := bindS h
    refine f30_broughamlaw34_same_L4_ok n a b 0 w503 cw503 _ ?_
    rcases w503 with e504 | e505
    · have h := Option.some.inj h
      subst h
      rfl
    · show At Go.Proofs.Try.prog Go.Proofs.Try.f30 0 8 ⟨[], [], [], 0⟩ _
      have h := Option.some.inj h
      subst h
      exact At.fin hm ht ⟨[], [], [], [4], []⟩ [] (by kernel_rfl) trivial
/-! brougham/broughamlaw34.alive -/
def f27_broughamlaw34_alive_in : Inn := ⟨[], [], [], 0⟩
def f27_broughamlaw34_alive_out (r : Bool) : Out := ⟨.one (.c (.d (.bool r))), [], [], 0⟩
def f27_broughamlaw34_alive (n : Nat) : Option (Bool) :=
  (f20_capture_Encode n []).bind fun r512_0 =>
  (f28_capture_Decode n r512_0.1).bind fun r513_0 =>
  if r512_0.2 = true then
    if ((((r512_0.1.length : Nat) : Int) : Int) == 10) = true then
      if cutOk r512_0.1.length none (some 6) none then
      if ((strOfNums (r512_0.1.take 6)).toList == (⟨#[66, 82, 79, 85, 0, 0]⟩ : ByteArray).toList) = true then
        if r513_0.2 = true then
          if ((((r513_0.1.length : Nat) : Int) : Int) == 0) = true then
            some true
          else
            some false
        else
          some false
      else
        some false
      else none
    else
      some false
  else
    some false
theorem f27_broughamlaw34_alive_ok (n : Nat) (r : Bool) (h : f27_broughamlaw34_alive n = some r) : FnOK Go.Proofs.Try.prog 27 (f27_broughamlaw34_alive_in) (f27_broughamlaw34_alive_out r) := by
  unfold f27_broughamlaw34_alive at h
  refine At.fn (r := 0) Go.Proofs.Try.func27 rfl (by kernel_rfl) rfl rfl (by kernel_rfl) ?_
  show At Go.Proofs.Try.prog Go.Proofs.Try.f27 0 0 ⟨[], [], [], 0⟩ _
  refine At.step hm ht ⟨[], [], [], [], []⟩ 1 ⟨[], [], [], 0⟩ [] (by kernel_rfl) trivial ?_
  obtain ⟨r512_0, cr512_0, h⟩ := bindS h
  refine At.step hm ht ⟨[(0, .call [] [(0, 0, (.pair (.int .i64) (.pair (.int .i64) (.pair (.int .i64) (.slice (.int .u8))))))] (f20_capture_Encode_out r512_0))], [], [], [1, 2], [0]⟩ 2 ⟨[(1, .one (.c (.own 0 (.int .u8) r512_0.1))), (2, .one (.c (.d (.bool r512_0.2))))], [(0, some ⟨5, 0⟩)], [], 1⟩ [FnOK Go.Proofs.Try.prog 20 (f20_capture_Encode_in []) (f20_capture_Encode_out r512_0)] (by kernel_rfl) ⟨(f20_capture_Encode_ok n [] r512_0 cr512_0), trivial⟩ ?_
  obtain ⟨r513_0, cr513_0, h⟩ := bindS h
  refine At.step hm ht ⟨[(1, .call [] [] (f28_capture_Decode_out r513_0))], [], [], [1, 2, 3, 4], [0, 2]⟩ 3 ⟨[(1, .one (.c (.own 0 (.int .u8) r512_0.1))), (2, .one (.c (.d (.bool r512_0.2)))), (3, .one (.c (.own 1 (.pair (.int .i64) (.pair (.int .i64) (.pair (.int .i64) (.slice (.int .u8))))) r513_0.1))), (4, .one (.c (.d (.bool r513_0.2))))], [(0, some ⟨5, 0⟩), (1, some ⟨82, 0⟩)], [], 2⟩ [FnOK Go.Proofs.Try.prog 28 (f28_capture_Decode_in r512_0.1) (f28_capture_Decode_out r513_0)] (by kernel_rfl) ⟨(f28_capture_Decode_ok n r512_0.1 r513_0 cr513_0), trivial⟩ ?_
  rcases iteS h with ⟨b514_1, h⟩ | ⟨b514_1, h⟩
  · rcases iteS h with ⟨b514_6, h⟩ | ⟨b514_6, h⟩
    · obtain ⟨g514_0, h⟩ := ifS h
      rcases iteS h with ⟨b514_12, h⟩ | ⟨b514_12, h⟩
      · rcases iteS h with ⟨b514_15, h⟩ | ⟨b514_15, h⟩
        · rcases iteS h with ⟨b514_20, h⟩ | ⟨b514_20, h⟩
          · have h := Option.some.inj h
            subst h
            exact At.fin hm ht ⟨[(1, .b true), (6, .b true), (12, .b true), (15, .b true), (20, .b true)], [], [], [0], []⟩ [r512_0.2 = true, ((((r512_0.1.length : Nat) : Int) : Int) == 10) = true, cutOk r512_0.1.length none (some 6) none, ((strOfNums (r512_0.1.take 6)).toList == (⟨#[66, 82, 79, 85, 0, 0]⟩ : ByteArray).toList) = true, r513_0.2 = true, ((((r513_0.1.length : Nat) : Int) : Int) == 0) = true] (by kernel_rfl) ⟨b514_1, b514_6, g514_0, b514_12, b514_15, b514_20, trivial⟩
          · have h := Option.some.inj h
            subst h
            exact At.fin hm ht ⟨[(1, .b true), (6, .b true), (12, .b true), (15, .b true), (20, .b false)], [], [], [0], []⟩ [r512_0.2 = true, ((((r512_0.1.length : Nat) : Int) : Int) == 10) = true, cutOk r512_0.1.length none (some 6) none, ((strOfNums (r512_0.1.take 6)).toList == (⟨#[66, 82, 79, 85, 0, 0]⟩ : ByteArray).toList) = true, r513_0.2 = true, ((((r513_0.1.length : Nat) : Int) : Int) == 0) = false] (by kernel_rfl) ⟨b514_1, b514_6, g514_0, b514_12, b514_15, b514_20, trivial⟩
        · have h := Option.some.inj h
          subst h
          exact At.fin hm ht ⟨[(1, .b true), (6, .b true), (12, .b true), (15, .b false)], [], [], [0], []⟩ [r512_0.2 = true, ((((r512_0.1.length : Nat) : Int) : Int) == 10) = true, cutOk r512_0.1.length none (some 6) none, ((strOfNums (r512_0.1.take 6)).toList == (⟨#[66, 82, 79, 85, 0, 0]⟩ : ByteArray).toList) = true, r513_0.2 = false] (by kernel_rfl) ⟨b514_1, b514_6, g514_0, b514_12, b514_15, trivial⟩
      · have h := Option.some.inj h
        subst h
        exact At.fin hm ht ⟨[(1, .b true), (6, .b true), (12, .b false)], [], [], [0], []⟩ [r512_0.2 = true, ((((r512_0.1.length : Nat) : Int) : Int) == 10) = true, cutOk r512_0.1.length none (some 6) none, ((strOfNums (r512_0.1.take 6)).toList == (⟨#[66, 82, 79, 85, 0, 0]⟩ : ByteArray).toList) = false] (by kernel_rfl) ⟨b514_1, b514_6, g514_0, b514_12, trivial⟩
    · have h := Option.some.inj h
      subst h
      exact At.fin hm ht ⟨[(1, .b true), (6, .b false)], [], [], [0], []⟩ [r512_0.2 = true, ((((r512_0.1.length : Nat) : Int) : Int) == 10) = false] (by kernel_rfl) ⟨b514_1, b514_6, trivial⟩
  · have h := Option.some.inj h
    subst h
    exact At.fin hm ht ⟨[(1, .b false)], [], [], [0], []⟩ [r512_0.2 = false] (by kernel_rfl) ⟨b514_1, trivial⟩
/-! brougham/broughamlaw34.CaptureBack -/
def f6_broughamlaw34_CaptureBack_in (l : List (Int × Int × Int × List Int)) (b : List Int) : Inn := ⟨[.c (.d (.sl (.pair (.int .i64) (.pair (.int .i64) (.pair (.int .i64) (.slice (.int .u8))))) l)), .c (.d (.sl (.int .u8) b))], [], [], 0⟩
def f6_broughamlaw34_CaptureBack_out (r : Bool) : Out := ⟨.one (.c (.d (.bool r))), [], [], 0⟩
def f6_broughamlaw34_CaptureBack (n : Nat) (l : List (Int × Int × Int × List Int)) (b : List Int) : Option (Bool) :=
  (f19_broughamlaw34_great n l).bind fun r488_0 =>
  if r488_0 = true then
    some true
  else
    if (decide ((((b.length : Nat) : Int) : Int) > 5000)) = true then
      some true
    else
      (f20_capture_Encode n l).bind fun r491_0 =>
      (f28_capture_Decode n r491_0.1).bind fun r492_0 =>
      if r491_0.2 = true then
        if (!r492_0.2) = true then
          some false
        else
          (f22_broughamlaw34_plain n l).bind fun r493_0 =>
          (f22_broughamlaw34_plain n r492_0.1).bind fun r493_1 =>
          (f30_broughamlaw34_same n r493_0 r493_1).bind fun r493_2 =>
          if (!r493_2) = true then
            some false
          else
            (f28_capture_Decode n b).bind fun r508_0 =>
            (f20_capture_Encode n r508_0.1).bind fun r509_0 =>
            if (!r508_0.2) = true then
              (f27_broughamlaw34_alive n).bind fun r510_0 =>
              some r510_0
            else
              if r509_0.2 = true then
                if ((strOfNums r509_0.1).toList == (strOfNums b).toList) = true then
                  (f27_broughamlaw34_alive n).bind fun r510_0 =>
                  some r510_0
                else
                  some false
              else
                some false
      else
        (f28_capture_Decode n b).bind fun r515_0 =>
        (f20_capture_Encode n r515_0.1).bind fun r516_0 =>
        if (!r515_0.2) = true then
          (f27_broughamlaw34_alive n).bind fun r517_0 =>
          some r517_0
        else
          if r516_0.2 = true then
            if ((strOfNums r516_0.1).toList == (strOfNums b).toList) = true then
              (f27_broughamlaw34_alive n).bind fun r517_0 =>
              some r517_0
            else
              some false
          else
            some false
theorem f6_broughamlaw34_CaptureBack_ok (n : Nat) (l : List (Int × Int × Int × List Int)) (b : List Int) (r : Bool) (h : f6_broughamlaw34_CaptureBack n l b = some r) : FnOK Go.Proofs.Try.prog 6 (f6_broughamlaw34_CaptureBack_in l b) (f6_broughamlaw34_CaptureBack_out r) := by
  unfold f6_broughamlaw34_CaptureBack at h
  refine At.fn (r := 0) Go.Proofs.Try.func6 rfl (by kernel_rfl) rfl rfl (by kernel_rfl) ?_
  show At Go.Proofs.Try.prog Go.Proofs.Try.f6 0 0 ⟨[(0, .one (.c (.d (.sl (.pair (.int .i64) (.pair (.int .i64) (.pair (.int .i64) (.slice (.int .u8))))) l)))), (1, .one (.c (.d (.sl (.int .u8) b))))], [], [], 0⟩ _
  refine At.step hm ht ⟨[], [], [], [0, 1], []⟩ 1 ⟨[(0, .one (.c (.d (.sl (.pair (.int .i64) (.pair (.int .i64) (.pair (.int .i64) (.slice (.int .u8))))) l)))), (1, .one (.c (.d (.sl (.int .u8) b))))], [], [], 0⟩ [] (by kernel_rfl) trivial ?_
  obtain ⟨r488_0, cr488_0, h⟩ := bindS h
  rcases iteS h with ⟨b488_2, h⟩ | ⟨b488_2, h⟩
  · refine At.step hm ht ⟨[(1, .call [] [] (f19_broughamlaw34_great_out r488_0)), (2, .b true)], [true], [], [], []⟩ 2 ⟨[], [], [], 0⟩ [FnOK Go.Proofs.Try.prog 19 (f19_broughamlaw34_great_in l) (f19_broughamlaw34_great_out r488_0), r488_0 = true, true = true] (by kernel_rfl) ⟨(f19_broughamlaw34_great_ok n l r488_0 cr488_0), b488_2, rfl, trivial⟩ ?_
    have h := Option.some.inj h
    subst h
    exact At.fin hm ht ⟨[], [], [], [4], []⟩ [] (by kernel_rfl) trivial
  · rcases iteS h with ⟨b488_e0, h⟩ | ⟨b488_e0, h⟩
    · refine At.step hm ht ⟨[(1, .call [] [] (f19_broughamlaw34_great_out r488_0)), (2, .b false)], [true], [], [], []⟩ 2 ⟨[], [], [], 0⟩ [FnOK Go.Proofs.Try.prog 19 (f19_broughamlaw34_great_in l) (f19_broughamlaw34_great_out r488_0), r488_0 = false, (decide ((((b.length : Nat) : Int) : Int) > 5000)) = true] (by kernel_rfl) ⟨(f19_broughamlaw34_great_ok n l r488_0 cr488_0), b488_2, b488_e0, trivial⟩ ?_
      have h := Option.some.inj h
      subst h
      exact At.fin hm ht ⟨[], [], [], [4], []⟩ [] (by kernel_rfl) trivial
    · refine At.step hm ht ⟨[(1, .call [] [] (f19_broughamlaw34_great_out r488_0)), (2, .b false)], [false], [], [0, 1], []⟩ 3 ⟨[(0, .one (.c (.d (.sl (.pair (.int .i64) (.pair (.int .i64) (.pair (.int .i64) (.slice (.int .u8))))) l)))), (1, .one (.c (.d (.sl (.int .u8) b))))], [], [], 0⟩ [FnOK Go.Proofs.Try.prog 19 (f19_broughamlaw34_great_in l) (f19_broughamlaw34_great_out r488_0), r488_0 = false, (decide ((((b.length : Nat) : Int) : Int) > 5000)) = false] (by kernel_rfl) ⟨(f19_broughamlaw34_great_ok n l r488_0 cr488_0), b488_2, b488_e0, trivial⟩ ?_
      obtain ⟨r491_0, cr491_0, h⟩ := bindS h
      refine At.step hm ht ⟨[(1, .call [] [] (f20_capture_Encode_out r491_0))], [], [], [0, 1, 5, 6], [1]⟩ 4 ⟨[(0, .one (.c (.d (.sl (.pair (.int .i64) (.pair (.int .i64) (.pair (.int .i64) (.slice (.int .u8))))) l)))), (1, .one (.c (.d (.sl (.int .u8) b)))), (5, .one (.c (.own 0 (.int .u8) r491_0.1))), (6, .one (.c (.d (.bool r491_0.2))))], [(0, some ⟨5, 0⟩)], [], 1⟩ [FnOK Go.Proofs.Try.prog 20 (f20_capture_Encode_in l) (f20_capture_Encode_out r491_0)] (by kernel_rfl) ⟨(f20_capture_Encode_ok n l r491_0 cr491_0), trivial⟩ ?_
      obtain ⟨r492_0, cr492_0, h⟩ := bindS h
      refine At.step hm ht ⟨[(1, .call [] [] (f28_capture_Decode_out r492_0))], [], [], [0, 1, 6, 7, 8], [2]⟩ 5 ⟨[(0, .one (.c (.d (.sl (.pair (.int .i64) (.pair (.int .i64) (.pair (.int .i64) (.slice (.int .u8))))) l)))), (1, .one (.c (.d (.sl (.int .u8) b)))), (6, .one (.c (.d (.bool r491_0.2)))), (7, .one (.c (.own 0 (.pair (.int .i64) (.pair (.int .i64) (.pair (.int .i64) (.slice (.int .u8))))) r492_0.1))), (8, .one (.c (.d (.bool r492_0.2))))], [(0, some ⟨82, 0⟩)], [], 1⟩ [FnOK Go.Proofs.Try.prog 28 (f28_capture_Decode_in r491_0.1) (f28_capture_Decode_out r492_0)] (by kernel_rfl) ⟨(f28_capture_Decode_ok n r491_0.1 r492_0 cr492_0), trivial⟩ ?_
      rcases iteS h with ⟨b493_1, h⟩ | ⟨b493_1, h⟩
      · rcases iteS h with ⟨b493_4, h⟩ | ⟨b493_4, h⟩
        · refine At.step hm ht ⟨[(1, .b true), (4, .b true)], [true], [], [], []⟩ 6 ⟨[], [], [], 0⟩ [r491_0.2 = true, (!r492_0.2) = true, true = true] (by kernel_rfl) ⟨b493_1, b493_4, rfl, trivial⟩ ?_
          have h := Option.some.inj h
          subst h
          exact At.fin hm ht ⟨[], [], [], [4], []⟩ [] (by kernel_rfl) trivial
        · obtain ⟨r493_0, cr493_0, h⟩ := bindS h
          obtain ⟨r493_1, cr493_1, h⟩ := bindS h
          obtain ⟨r493_2, cr493_2, h⟩ := bindS h
          rcases iteS h with ⟨b493_e0, h⟩ | ⟨b493_e0, h⟩
          · refine At.step hm ht ⟨[(1, .b true), (4, .b false), (6, .call [] [] (f22_broughamlaw34_plain_out r493_0)), (8, .call [] [] (f22_broughamlaw34_plain_out r493_1)), (9, .call [] [] (f30_broughamlaw34_same_out r493_2))], [true], [], [], []⟩ 6 ⟨[], [], [], 0⟩ [r491_0.2 = true, (!r492_0.2) = false, FnOK Go.Proofs.Try.prog 22 (f22_broughamlaw34_plain_in l) (f22_broughamlaw34_plain_out r493_0), FnOK Go.Proofs.Try.prog 22 (f22_broughamlaw34_plain_in r492_0.1) (f22_broughamlaw34_plain_out r493_1), FnOK Go.Proofs.Try.prog 30 (f30_broughamlaw34_same_in r493_0 r493_1) (f30_broughamlaw34_same_out r493_2), (!r493_2) = true] (by kernel_rfl) ⟨b493_1, b493_4, (f22_broughamlaw34_plain_ok n l r493_0 cr493_0), (f22_broughamlaw34_plain_ok n r492_0.1 r493_1 cr493_1), (f30_broughamlaw34_same_ok n r493_0 r493_1 r493_2 cr493_2), b493_e0, trivial⟩ ?_
            have h := Option.some.inj h
            subst h
            exact At.fin hm ht ⟨[], [], [], [4], []⟩ [] (by kernel_rfl) trivial
          · refine At.step hm ht ⟨[(1, .b true), (4, .b false), (6, .call [] [] (f22_broughamlaw34_plain_out r493_0)), (8, .call [] [] (f22_broughamlaw34_plain_out r493_1)), (9, .call [] [] (f30_broughamlaw34_same_out r493_2))], [false], [], [1], []⟩ 7 ⟨[(1, .one (.c (.d (.sl (.int .u8) b))))], [], [], 0⟩ [r491_0.2 = true, (!r492_0.2) = false, FnOK Go.Proofs.Try.prog 22 (f22_broughamlaw34_plain_in l) (f22_broughamlaw34_plain_out r493_0), FnOK Go.Proofs.Try.prog 22 (f22_broughamlaw34_plain_in r492_0.1) (f22_broughamlaw34_plain_out r493_1), FnOK Go.Proofs.Try.prog 30 (f30_broughamlaw34_same_in r493_0 r493_1) (f30_broughamlaw34_same_out r493_2), (!r493_2) = false] (by kernel_rfl) ⟨b493_1, b493_4, (f22_broughamlaw34_plain_ok n l r493_0 cr493_0), (f22_broughamlaw34_plain_ok n r492_0.1 r493_1 cr493_1), (f30_broughamlaw34_same_ok n r493_0 r493_1 r493_2 cr493_2), b493_e0, trivial⟩ ?_
            obtain ⟨r508_0, cr508_0, h⟩ := bindS h
            refine At.step hm ht ⟨[(1, .call [] [] (f28_capture_Decode_out r508_0))], [], [], [1, 9, 10], [1]⟩ 8 ⟨[(1, .one (.c (.d (.sl (.int .u8) b)))), (9, .one (.c (.own 0 (.pair (.int .i64) (.pair (.int .i64) (.pair (.int .i64) (.slice (.int .u8))))) r508_0.1))), (10, .one (.c (.d (.bool r508_0.2))))], [(0, some ⟨82, 0⟩)], [], 1⟩ [FnOK Go.Proofs.Try.prog 28 (f28_capture_Decode_in b) (f28_capture_Decode_out r508_0)] (by kernel_rfl) ⟨(f28_capture_Decode_ok n b r508_0 cr508_0), trivial⟩ ?_
            obtain ⟨r509_0, cr509_0, h⟩ := bindS h
            refine At.step hm ht ⟨[(1, .call [] [] (f20_capture_Encode_out r509_0))], [], [], [1, 10, 11, 12], [2]⟩ 9 ⟨[(1, .one (.c (.d (.sl (.int .u8) b)))), (10, .one (.c (.d (.bool r508_0.2)))), (11, .one (.c (.own 0 (.int .u8) r509_0.1))), (12, .one (.c (.d (.bool r509_0.2))))], [(0, some ⟨5, 0⟩)], [], 1⟩ [FnOK Go.Proofs.Try.prog 20 (f20_capture_Encode_in r508_0.1) (f20_capture_Encode_out r509_0)] (by kernel_rfl) ⟨(f20_capture_Encode_ok n r508_0.1 r509_0 cr509_0), trivial⟩ ?_
            rcases iteS h with ⟨b510_2, h⟩ | ⟨b510_2, h⟩
            · obtain ⟨r510_0, cr510_0, h⟩ := bindS h
              have h := Option.some.inj h
              subst h
              exact At.fin hm ht ⟨[(2, .b true), (13, .call [] [] (f27_broughamlaw34_alive_out r510_0))], [], [], [4], []⟩ [(!r508_0.2) = true, FnOK Go.Proofs.Try.prog 27 (f27_broughamlaw34_alive_in) (f27_broughamlaw34_alive_out r510_0)] (by kernel_rfl) ⟨b510_2, (f27_broughamlaw34_alive_ok n r510_0 cr510_0), trivial⟩
            · rcases iteS h with ⟨b510_4, h⟩ | ⟨b510_4, h⟩
              · rcases iteS h with ⟨b510_12, h⟩ | ⟨b510_12, h⟩
                · obtain ⟨r510_0, cr510_0, h⟩ := bindS h
                  have h := Option.some.inj h
                  subst h
                  exact At.fin hm ht ⟨[(2, .b false), (4, .b true), (12, .b true), (13, .call [] [] (f27_broughamlaw34_alive_out r510_0))], [], [], [4], []⟩ [(!r508_0.2) = false, r509_0.2 = true, ((strOfNums r509_0.1).toList == (strOfNums b).toList) = true, FnOK Go.Proofs.Try.prog 27 (f27_broughamlaw34_alive_in) (f27_broughamlaw34_alive_out r510_0)] (by kernel_rfl) ⟨b510_2, b510_4, b510_12, (f27_broughamlaw34_alive_ok n r510_0 cr510_0), trivial⟩
                · have h := Option.some.inj h
                  subst h
                  exact At.fin hm ht ⟨[(2, .b false), (4, .b true), (12, .b false)], [], [], [4], []⟩ [(!r508_0.2) = false, r509_0.2 = true, ((strOfNums r509_0.1).toList == (strOfNums b).toList) = false] (by kernel_rfl) ⟨b510_2, b510_4, b510_12, trivial⟩
              · have h := Option.some.inj h
                subst h
                exact At.fin hm ht ⟨[(2, .b false), (4, .b false)], [], [], [4], []⟩ [(!r508_0.2) = false, r509_0.2 = false] (by kernel_rfl) ⟨b510_2, b510_4, trivial⟩
      · refine At.step hm ht ⟨[(1, .b false)], [false], [], [1], []⟩ 7 ⟨[(1, .one (.c (.d (.sl (.int .u8) b))))], [], [], 0⟩ [r491_0.2 = false, false = false] (by kernel_rfl) ⟨b493_1, rfl, trivial⟩ ?_
        obtain ⟨r515_0, cr515_0, h⟩ := bindS h
        refine At.step hm ht ⟨[(1, .call [] [] (f28_capture_Decode_out r515_0))], [], [], [1, 9, 10], [1]⟩ 8 ⟨[(1, .one (.c (.d (.sl (.int .u8) b)))), (9, .one (.c (.own 0 (.pair (.int .i64) (.pair (.int .i64) (.pair (.int .i64) (.slice (.int .u8))))) r515_0.1))), (10, .one (.c (.d (.bool r515_0.2))))], [(0, some ⟨82, 0⟩)], [], 1⟩ [FnOK Go.Proofs.Try.prog 28 (f28_capture_Decode_in b) (f28_capture_Decode_out r515_0)] (by kernel_rfl) ⟨(f28_capture_Decode_ok n b r515_0 cr515_0), trivial⟩ ?_
        obtain ⟨r516_0, cr516_0, h⟩ := bindS h
        refine At.step hm ht ⟨[(1, .call [] [] (f20_capture_Encode_out r516_0))], [], [], [1, 10, 11, 12], [2]⟩ 9 ⟨[(1, .one (.c (.d (.sl (.int .u8) b)))), (10, .one (.c (.d (.bool r515_0.2)))), (11, .one (.c (.own 0 (.int .u8) r516_0.1))), (12, .one (.c (.d (.bool r516_0.2))))], [(0, some ⟨5, 0⟩)], [], 1⟩ [FnOK Go.Proofs.Try.prog 20 (f20_capture_Encode_in r515_0.1) (f20_capture_Encode_out r516_0)] (by kernel_rfl) ⟨(f20_capture_Encode_ok n r515_0.1 r516_0 cr516_0), trivial⟩ ?_
        rcases iteS h with ⟨b517_2, h⟩ | ⟨b517_2, h⟩
        · obtain ⟨r517_0, cr517_0, h⟩ := bindS h
          have h := Option.some.inj h
          subst h
          exact At.fin hm ht ⟨[(2, .b true), (13, .call [] [] (f27_broughamlaw34_alive_out r517_0))], [], [], [4], []⟩ [(!r515_0.2) = true, FnOK Go.Proofs.Try.prog 27 (f27_broughamlaw34_alive_in) (f27_broughamlaw34_alive_out r517_0)] (by kernel_rfl) ⟨b517_2, (f27_broughamlaw34_alive_ok n r517_0 cr517_0), trivial⟩
        · rcases iteS h with ⟨b517_4, h⟩ | ⟨b517_4, h⟩
          · rcases iteS h with ⟨b517_12, h⟩ | ⟨b517_12, h⟩
            · obtain ⟨r517_0, cr517_0, h⟩ := bindS h
              have h := Option.some.inj h
              subst h
              exact At.fin hm ht ⟨[(2, .b false), (4, .b true), (12, .b true), (13, .call [] [] (f27_broughamlaw34_alive_out r517_0))], [], [], [4], []⟩ [(!r515_0.2) = false, r516_0.2 = true, ((strOfNums r516_0.1).toList == (strOfNums b).toList) = true, FnOK Go.Proofs.Try.prog 27 (f27_broughamlaw34_alive_in) (f27_broughamlaw34_alive_out r517_0)] (by kernel_rfl) ⟨b517_2, b517_4, b517_12, (f27_broughamlaw34_alive_ok n r517_0 cr517_0), trivial⟩
            · have h := Option.some.inj h
              subst h
              exact At.fin hm ht ⟨[(2, .b false), (4, .b true), (12, .b false)], [], [], [4], []⟩ [(!r515_0.2) = false, r516_0.2 = true, ((strOfNums r516_0.1).toList == (strOfNums b).toList) = false] (by kernel_rfl) ⟨b517_2, b517_4, b517_12, trivial⟩
          · have h := Option.some.inj h
            subst h
            exact At.fin hm ht ⟨[(2, .b false), (4, .b false)], [], [], [4], []⟩ [(!r515_0.2) = false, r516_0.2 = false] (by kernel_rfl) ⟨b517_2, b517_4, trivial⟩
/-! brougham/capture.copied -/
def f95_capture_copied_in (r__0 : Int) (r__1 : Int) (r__2 : Int) (r__3 : List Int) : Inn := ⟨[.agg [.d (.int .i64 r__0), .d (.int .i64 r__1), .d (.int .i64 r__2), .d (.sl (.int .u8) r__3)]], [], [], 0⟩
def f95_capture_copied_out (r : Int × Int × Int × List Int) : Out := ⟨.one (.agg [.d (.int .i64 r.1), .d (.int .i64 r.2.1), .d (.int .i64 r.2.2.1), .own 1 (.int .u8) r.2.2.2]), [(1, ⟨5, 0⟩)], [(0, [.d (.int .i64 r.1), .d (.int .i64 r.2.1), .d (.int .i64 r.2.2.1), .own 1 (.int .u8) r.2.2.2])], 2⟩
def f95_capture_copied (r__0 : Int) (r__1 : Int) (r__2 : Int) (r__3 : List Int) : Option (Int × Int × Int × List Int) :=
  if r__3.length ≤ maxLen ∧ r__3.length * 1 ≤ 140737488355328 then
  some (r__0, r__1, r__2, r__3)
  else none
theorem f95_capture_copied_ok (r__0 : Int) (r__1 : Int) (r__2 : Int) (r__3 : List Int) (r : Int × Int × Int × List Int) (h : f95_capture_copied r__0 r__1 r__2 r__3 = some r) : FnOK Go.Proofs.Try.prog 95 (f95_capture_copied_in r__0 r__1 r__2 r__3) (f95_capture_copied_out r) := by
  unfold f95_capture_copied at h
  refine At.fn (r := 0) Go.Proofs.Try.func95 rfl (by kernel_rfl) rfl rfl (by kernel_rfl) ?_
  show At Go.Proofs.Try.prog Go.Proofs.Try.f95 0 0 ⟨[(0, .one (.agg [.d (.int .i64 r__0), .d (.int .i64 r__1), .d (.int .i64 r__2), .d (.sl (.int .u8) r__3)]))], [], [], 0⟩ _
  refine At.step hm ht ⟨[], [], [], [1, 2], [0, 1]⟩ 1 ⟨[(1, .one (.c (.ptr 0 0))), (2, .one (.c (.ptr 1 0)))], [], [(0, [.d (.int .i64 r__0), .d (.int .i64 r__1), .d (.int .i64 r__2), .d (.sl (.int .u8) r__3)]), (1, [.d (.int .i64 0), .d (.int .i64 0), .d (.int .i64 0), .d (.sl .unit [])])], 2⟩ [] (by kernel_rfl) trivial ?_
  obtain ⟨g531_0, h⟩ := ifS h
  refine At.step hm ht ⟨[], [], [], [1, 2], [0, 1, 4]⟩ 2 ⟨[(1, .one (.c (.ptr 0 0))), (2, .one (.c (.ptr 1 0)))], [(2, some ⟨5, 0⟩)], [(0, [.d (.int .i64 r__0), .d (.int .i64 r__1), .d (.int .i64 r__2), .own 2 (.int .u8) r__3]), (1, [.d (.int .i64 0), .d (.int .i64 0), .d (.int .i64 0), .d (.sl .unit [])])], 3⟩ [r__3.length ≤ maxLen ∧ r__3.length * 1 ≤ 140737488355328, 3 + 1 ≤ 4] (by kernel_rfl) ⟨g531_0, (by decide), trivial⟩ ?_
  have h := Option.some.inj h
  subst h
  exact At.fin hm ht ⟨[], [], [], [2], [1, 2]⟩ [0 + 4 ≤ 4] (by kernel_rfl) ⟨(by decide), trivial⟩
/-! brougham/capture.Merge -/
def f42_capture_Merge_in (a : List (Int × Int × Int × List Int)) (b : List (Int × Int × Int × List Int)) : Inn := ⟨[.c (.d (.sl (.pair (.int .i64) (.pair (.int .i64) (.pair (.int .i64) (.slice (.int .u8))))) a)), .c (.d (.sl (.pair (.int .i64) (.pair (.int .i64) (.pair (.int .i64) (.slice (.int .u8))))) b))], [], [], 0⟩
def f42_capture_Merge_out (r : List (Int × Int × Int × List Int)) : Out := ⟨.one (.c (.own 0 (.pair (.int .i64) (.pair (.int .i64) (.pair (.int .i64) (.slice (.int .u8))))) r)), [(0, ⟨82, 0⟩)], [], 1⟩
def f42_capture_Merge_L2 : Nat → (List (Int × Int × Int × List Int)) → (List (Int × Int × Int × List Int)) → (List (Int × Int × Int × List Int)) → Option (List (Int × Int × Int × List Int))
  | 0, _, _, _ => none
  | n + 1, a, b, out =>
    if (decide ((((a.length : Nat) : Int) : Int) > 0)) = true then
      if ((((b.length : Nat) : Int) : Int) == 0) = true then
        if (0 : Int) ≤ 0 ∧ 0 < (((a).length : Nat) : Int) then
        (f95_capture_copied ((a.getD 0 (0, (0, (0, [])))).1) (((a.getD 0 (0, (0, (0, [])))).2).1) ((((a.getD 0 (0, (0, (0, [])))).2).2).1) ((((a.getD 0 (0, (0, (0, [])))).2).2).2)).bind fun r538_1 =>
        if out.length + [r538_1].length ≤ maxLen ∧ (out.length + [r538_1].length) * 48 ≤ 140737488355328 then
        if cutOk a.length (some 1) none none then
        f42_capture_Merge_L2 n ((a.take a.length).drop 1) b (out ++ [r538_1])
        else none
        else none
        else none
      else
        if (decide ((((a.length : Nat) : Int) : Int) > 0)) = true then
          if (0 : Int) ≤ 0 ∧ 0 < (((a).length : Nat) : Int) then
          if (0 : Int) ≤ 0 ∧ 0 < (((b).length : Nat) : Int) then
          if (decide ((((a.getD 0 (0, (0, (0, [])))).1) : Int) ≤ ((b.getD 0 (0, (0, (0, [])))).1))) = true then
            if (0 : Int) ≤ 0 ∧ 0 < (((a).length : Nat) : Int) then
            (f95_capture_copied ((a.getD 0 (0, (0, (0, [])))).1) (((a.getD 0 (0, (0, (0, [])))).2).1) ((((a.getD 0 (0, (0, (0, [])))).2).2).1) ((((a.getD 0 (0, (0, (0, [])))).2).2).2)).bind fun r540_1 =>
            if out.length + [r540_1].length ≤ maxLen ∧ (out.length + [r540_1].length) * 48 ≤ 140737488355328 then
            if cutOk a.length (some 1) none none then
            f42_capture_Merge_L2 n ((a.take a.length).drop 1) b (out ++ [r540_1])
            else none
            else none
            else none
          else
            if (0 : Int) ≤ 0 ∧ 0 < (((b).length : Nat) : Int) then
            (f95_capture_copied ((b.getD 0 (0, (0, (0, [])))).1) (((b.getD 0 (0, (0, (0, [])))).2).1) ((((b.getD 0 (0, (0, (0, [])))).2).2).1) ((((b.getD 0 (0, (0, (0, [])))).2).2).2)).bind fun r542_1 =>
            if out.length + [r542_1].length ≤ maxLen ∧ (out.length + [r542_1].length) * 48 ≤ 140737488355328 then
            if cutOk b.length (some 1) none none then
            f42_capture_Merge_L2 n a ((b.take b.length).drop 1) (out ++ [r542_1])
            else none
            else none
            else none
          else none
          else none
        else
          if (0 : Int) ≤ 0 ∧ 0 < (((b).length : Nat) : Int) then
          (f95_capture_copied ((b.getD 0 (0, (0, (0, [])))).1) (((b.getD 0 (0, (0, (0, [])))).2).1) ((((b.getD 0 (0, (0, (0, [])))).2).2).1) ((((b.getD 0 (0, (0, (0, [])))).2).2).2)).bind fun r544_1 =>
          if out.length + [r544_1].length ≤ maxLen ∧ (out.length + [r544_1].length) * 48 ≤ 140737488355328 then
          if cutOk b.length (some 1) none none then
          f42_capture_Merge_L2 n a ((b.take b.length).drop 1) (out ++ [r544_1])
          else none
          else none
          else none
    else
      if (decide ((((b.length : Nat) : Int) : Int) > 0)) = true then
        if ((((b.length : Nat) : Int) : Int) == 0) = true then
          if (0 : Int) ≤ 0 ∧ 0 < (((a).length : Nat) : Int) then
          (f95_capture_copied ((a.getD 0 (0, (0, (0, [])))).1) (((a.getD 0 (0, (0, (0, [])))).2).1) ((((a.getD 0 (0, (0, (0, [])))).2).2).1) ((((a.getD 0 (0, (0, (0, [])))).2).2).2)).bind fun r547_1 =>
          if out.length + [r547_1].length ≤ maxLen ∧ (out.length + [r547_1].length) * 48 ≤ 140737488355328 then
          if cutOk a.length (some 1) none none then
          f42_capture_Merge_L2 n ((a.take a.length).drop 1) b (out ++ [r547_1])
          else none
          else none
          else none
        else
          if (decide ((((a.length : Nat) : Int) : Int) > 0)) = true then
            if (0 : Int) ≤ 0 ∧ 0 < (((a).length : Nat) : Int) then
            if (0 : Int) ≤ 0 ∧ 0 < (((b).length : Nat) : Int) then
            if (decide ((((a.getD 0 (0, (0, (0, [])))).1) : Int) ≤ ((b.getD 0 (0, (0, (0, [])))).1))) = true then
              if (0 : Int) ≤ 0 ∧ 0 < (((a).length : Nat) : Int) then
              (f95_capture_copied ((a.getD 0 (0, (0, (0, [])))).1) (((a.getD 0 (0, (0, (0, [])))).2).1) ((((a.getD 0 (0, (0, (0, [])))).2).2).1) ((((a.getD 0 (0, (0, (0, [])))).2).2).2)).bind fun r549_1 =>
              if out.length + [r549_1].length ≤ maxLen ∧ (out.length + [r549_1].length) * 48 ≤ 140737488355328 then
              if cutOk a.length (some 1) none none then
              f42_capture_Merge_L2 n ((a.take a.length).drop 1) b (out ++ [r549_1])
              else none
              else none
              else none
            else
              if (0 : Int) ≤ 0 ∧ 0 < (((b).length : Nat) : Int) then
              (f95_capture_copied ((b.getD 0 (0, (0, (0, [])))).1) (((b.getD 0 (0, (0, (0, [])))).2).1) ((((b.getD 0 (0, (0, (0, [])))).2).2).1) ((((b.getD 0 (0, (0, (0, [])))).2).2).2)).bind fun r551_1 =>
              if out.length + [r551_1].length ≤ maxLen ∧ (out.length + [r551_1].length) * 48 ≤ 140737488355328 then
              if cutOk b.length (some 1) none none then
              f42_capture_Merge_L2 n a ((b.take b.length).drop 1) (out ++ [r551_1])
              else none
              else none
              else none
            else none
            else none
          else
            if (0 : Int) ≤ 0 ∧ 0 < (((b).length : Nat) : Int) then
            (f95_capture_copied ((b.getD 0 (0, (0, (0, [])))).1) (((b.getD 0 (0, (0, (0, [])))).2).1) ((((b.getD 0 (0, (0, (0, [])))).2).2).1) ((((b.getD 0 (0, (0, (0, [])))).2).2).2)).bind fun r553_1 =>
            if out.length + [r553_1].length ≤ maxLen ∧ (out.length + [r553_1].length) * 48 ≤ 140737488355328 then
            if cutOk b.length (some 1) none none then
            f42_capture_Merge_L2 n a ((b.take b.length).drop 1) (out ++ [r553_1])
            else none
            else none
            else none
      else
        some (out)
def f42_capture_Merge_L2_k (e : List (Int × Int × Int × List Int)) (o : Out) : Prop := At Go.Proofs.Try.prog Go.Proofs.Try.f42 0 8 ⟨[(5, .one (.c (.own 0 (.pair (.int .i64) (.pair (.int .i64) (.pair (.int .i64) (.slice (.int .u8))))) e)))], [(0, some ⟨82, 0⟩)], [], 1⟩ o
theorem f42_capture_Merge_L2_ok (n : Nat) : ∀ (a : List (Int × Int × Int × List Int)) (b : List (Int × Int × Int × List Int)) (out : List (Int × Int × Int × List Int)) (w : List (Int × Int × Int × List Int)) (h : f42_capture_Merge_L2 n a b out = some w) (o : Out) (hk : f42_capture_Merge_L2_k w o), At Go.Proofs.Try.prog Go.Proofs.Try.f42 0 2 ⟨[(0, .one (.c (.d (.sl (.pair (.int .i64) (.pair (.int .i64) (.pair (.int .i64) (.slice (.int .u8))))) a)))), (1, .one (.c (.d (.sl (.pair (.int .i64) (.pair (.int .i64) (.pair (.int .i64) (.slice (.int .u8))))) b)))), (5, .one (.c (.own 0 (.pair (.int .i64) (.pair (.int .i64) (.pair (.int .i64) (.slice (.int .u8))))) out)))], [(0, some ⟨82, 0⟩)], [], 1⟩ o := by
  induction n with
  | zero => intro a b out w h; rw [f42_capture_Merge_L2] at h; cases h
  | succ n ih =>
    intro a b out w h o hk
    rw [f42_capture_Merge_L2] at h
    rcases iteS h with ⟨b536_3, h⟩ | ⟨b536_3, h⟩
    · refine At.step hm ht ⟨[(3, .b true)], [true], [], [0, 1, 5], [0]⟩ 3 ⟨[(0, .one (.c (.d (.sl (.pair (.int .i64) (.pair (.int .i64) (.pair (.int .i64) (.slice (.int .u8))))) a)))), (1, .one (.c (.d (.sl (.pair (.int .i64) (.pair (.int .i64) (.pair (.int .i64) (.slice (.int .u8))))) b)))), (5, .one (.c (.own 0 (.pair (.int .i64) (.pair (.int .i64) (.pair (.int .i64) (.slice (.int .u8))))) out)))], [(0, some ⟨82, 0⟩)], [], 1⟩ [(decide ((((a.length : Nat) : Int) : Int) > 0)) = true, true = true] (by kernel_rfl) ⟨b536_3, rfl, trivial⟩ ?_
      rcases iteS h with ⟨b537_3, h⟩ | ⟨b537_3, h⟩
      · refine At.step hm ht ⟨[(3, .b true)], [true], [], [0, 1, 5], [0]⟩ 4 ⟨[(0, .one (.c (.d (.sl (.pair (.int .i64) (.pair (.int .i64) (.pair (.int .i64) (.slice (.int .u8))))) a)))), (1, .one (.c (.d (.sl (.pair (.int .i64) (.pair (.int .i64) (.pair (.int .i64) (.slice (.int .u8))))) b)))), (5, .one (.c (.own 0 (.pair (.int .i64) (.pair (.int .i64) (.pair (.int .i64) (.slice (.int .u8))))) out)))], [(0, some ⟨82, 0⟩)], [], 1⟩ [((((b.length : Nat) : Int) : Int) == 0) = true, true = true] (by kernel_rfl) ⟨b537_3, rfl, trivial⟩ ?_
        obtain ⟨g538_0, h⟩ := ifS h
        obtain ⟨r538_1, cr538_1, h⟩ := bindS h
        obtain ⟨g538_2, h⟩ := ifS h
        refine At.step hm ht ⟨[(4, .call [] [] (f95_capture_copied_out r538_1))], [], [], [0, 1, 5], [8]⟩ 5 ⟨[(0, .one (.c (.d (.sl (.pair (.int .i64) (.pair (.int .i64) (.pair (.int .i64) (.slice (.int .u8))))) a)))), (1, .one (.c (.d (.sl (.pair (.int .i64) (.pair (.int .i64) (.pair (.int .i64) (.slice (.int .u8))))) b)))), (5, .one (.c (.own 0 (.pair (.int .i64) (.pair (.int .i64) (.pair (.int .i64) (.slice (.int .u8))))) (out ++ [r538_1]))))], [(0, some ⟨82, 0⟩)], [], 1⟩ [(0 : Int) ≤ 0 ∧ 0 < (((a).length : Nat) : Int), FnOK Go.Proofs.Try.prog 95 (f95_capture_copied_in ((a.getD 0 (0, (0, (0, [])))).1) (((a.getD 0 (0, (0, (0, [])))).2).1) ((((a.getD 0 (0, (0, (0, [])))).2).2).1) ((((a.getD 0 (0, (0, (0, [])))).2).2).2)) (f95_capture_copied_out r538_1), out.length + [r538_1].length ≤ maxLen ∧ (out.length + [r538_1].length) * 48 ≤ 140737488355328] (by kernel_rfl) ⟨g538_0, (f95_capture_copied_ok ((a.getD 0 (0, (0, (0, [])))).1) (((a.getD 0 (0, (0, (0, [])))).2).1) ((((a.getD 0 (0, (0, (0, [])))).2).2).1) ((((a.getD 0 (0, (0, (0, [])))).2).2).2) r538_1 cr538_1), g538_2, trivial⟩ ?_
        obtain ⟨g539_0, h⟩ := ifS h
        refine At.step hm ht ⟨[], [], [], [0, 1, 5], [0]⟩ 2 ⟨[(0, .one (.c (.d (.sl (.pair (.int .i64) (.pair (.int .i64) (.pair (.int .i64) (.slice (.int .u8))))) ((a.take a.length).drop 1))))), (1, .one (.c (.d (.sl (.pair (.int .i64) (.pair (.int .i64) (.pair (.int .i64) (.slice (.int .u8))))) b)))), (5, .one (.c (.own 0 (.pair (.int .i64) (.pair (.int .i64) (.pair (.int .i64) (.slice (.int .u8))))) (out ++ [r538_1]))))], [(0, some ⟨82, 0⟩)], [], 1⟩ [cutOk a.length (some 1) none none] (by kernel_rfl) ⟨g539_0, trivial⟩ ?_
        exact ih ((a.take a.length).drop 1) b (out ++ [r538_1]) w h o hk
      · rcases iteS h with ⟨b537_7, h⟩ | ⟨b537_7, h⟩
        · obtain ⟨g537_0, h⟩ := ifS h
          obtain ⟨g537_1, h⟩ := ifS h
          rcases iteS h with ⟨b537_e0, h⟩ | ⟨b537_e0, h⟩
          · refine At.step hm ht ⟨[(3, .b false), (7, .b true)], [true], [], [0, 1, 5], [0]⟩ 4 ⟨[(0, .one (.c (.d (.sl (.pair (.int .i64) (.pair (.int .i64) (.pair (.int .i64) (.slice (.int .u8))))) a)))), (1, .one (.c (.d (.sl (.pair (.int .i64) (.pair (.int .i64) (.pair (.int .i64) (.slice (.int .u8))))) b)))), (5, .one (.c (.own 0 (.pair (.int .i64) (.pair (.int .i64) (.pair (.int .i64) (.slice (.int .u8))))) out)))], [(0, some ⟨82, 0⟩)], [], 1⟩ [((((b.length : Nat) : Int) : Int) == 0) = false, (decide ((((a.length : Nat) : Int) : Int) > 0)) = true, (0 : Int) ≤ 0 ∧ 0 < (((a).length : Nat) : Int), (0 : Int) ≤ 0 ∧ 0 < (((b).length : Nat) : Int), (decide ((((a.getD 0 (0, (0, (0, [])))).1) : Int) ≤ ((b.getD 0 (0, (0, (0, [])))).1))) = true] (by kernel_rfl) ⟨b537_3, b537_7, g537_0, g537_1, b537_e0, trivial⟩ ?_
            obtain ⟨g540_0, h⟩ := ifS h
            obtain ⟨r540_1, cr540_1, h⟩ := bindS h
            obtain ⟨g540_2, h⟩ := ifS h
            refine At.step hm ht ⟨[(4, .call [] [] (f95_capture_copied_out r540_1))], [], [], [0, 1, 5], [8]⟩ 5 ⟨[(0, .one (.c (.d (.sl (.pair (.int .i64) (.pair (.int .i64) (.pair (.int .i64) (.slice (.int .u8))))) a)))), (1, .one (.c (.d (.sl (.pair (.int .i64) (.pair (.int .i64) (.pair (.int .i64) (.slice (.int .u8))))) b)))), (5, .one (.c (.own 0 (.pair (.int .i64) (.pair (.int .i64) (.pair (.int .i64) (.slice (.int .u8))))) (out ++ [r540_1]))))], [(0, some ⟨82, 0⟩)], [], 1⟩ [(0 : Int) ≤ 0 ∧ 0 < (((a).length : Nat) : Int), FnOK Go.Proofs.Try.prog 95 (f95_capture_copied_in ((a.getD 0 (0, (0, (0, [])))).1) (((a.getD 0 (0, (0, (0, [])))).2).1) ((((a.getD 0 (0, (0, (0, [])))).2).2).1) ((((a.getD 0 (0, (0, (0, [])))).2).2).2)) (f95_capture_copied_out r540_1), out.length + [r540_1].length ≤ maxLen ∧ (out.length + [r540_1].length) * 48 ≤ 140737488355328] (by kernel_rfl) ⟨g540_0, (f95_capture_copied_ok ((a.getD 0 (0, (0, (0, [])))).1) (((a.getD 0 (0, (0, (0, [])))).2).1) ((((a.getD 0 (0, (0, (0, [])))).2).2).1) ((((a.getD 0 (0, (0, (0, [])))).2).2).2) r540_1 cr540_1), g540_2, trivial⟩ ?_
            obtain ⟨g541_0, h⟩ := ifS h
            refine At.step hm ht ⟨[], [], [], [0, 1, 5], [0]⟩ 2 ⟨[(0, .one (.c (.d (.sl (.pair (.int .i64) (.pair (.int .i64) (.pair (.int .i64) (.slice (.int .u8))))) ((a.take a.length).drop 1))))), (1, .one (.c (.d (.sl (.pair (.int .i64) (.pair (.int .i64) (.pair (.int .i64) (.slice (.int .u8))))) b)))), (5, .one (.c (.own 0 (.pair (.int .i64) (.pair (.int .i64) (.pair (.int .i64) (.slice (.int .u8))))) (out ++ [r540_1]))))], [(0, some ⟨82, 0⟩)], [], 1⟩ [cutOk a.length (some 1) none none] (by kernel_rfl) ⟨g541_0, trivial⟩ ?_
            exact ih ((a.take a.length).drop 1) b (out ++ [r540_1]) w h o hk
          · refine At.step hm ht ⟨[(3, .b false), (7, .b true)], [false], [], [0, 1, 5], [0]⟩ 6 ⟨[(0, .one (.c (.d (.sl (.pair (.int .i64) (.pair (.int .i64) (.pair (.int .i64) (.slice (.int .u8))))) a)))), (1, .one (.c (.d (.sl (.pair (.int .i64) (.pair (.int .i64) (.pair (.int .i64) (.slice (.int .u8))))) b)))), (5, .one (.c (.own 0 (.pair (.int .i64) (.pair (.int .i64) (.pair (.int .i64) (.slice (.int .u8))))) out)))], [(0, some ⟨82, 0⟩)], [], 1⟩ [((((b.length : Nat) : Int) : Int) == 0) = false, (decide ((((a.length : Nat) : Int) : Int) > 0)) = true, (0 : Int) ≤ 0 ∧ 0 < (((a).length : Nat) : Int), (0 : Int) ≤ 0 ∧ 0 < (((b).length : Nat) : Int), (decide ((((a.getD 0 (0, (0, (0, [])))).1) : Int) ≤ ((b.getD 0 (0, (0, (0, [])))).1))) = false] (by kernel_rfl) ⟨b537_3, b537_7, g537_0, g537_1, b537_e0, trivial⟩ ?_
            obtain ⟨g542_0, h⟩ := ifS h
            obtain ⟨r542_1, cr542_1, h⟩ := bindS h
            obtain ⟨g542_2, h⟩ := ifS h
            refine At.step hm ht ⟨[(4, .call [] [] (f95_capture_copied_out r542_1))], [], [], [0, 1, 5], [8]⟩ 7 ⟨[(0, .one (.c (.d (.sl (.pair (.int .i64) (.pair (.int .i64) (.pair (.int .i64) (.slice (.int .u8))))) a)))), (1, .one (.c (.d (.sl (.pair (.int .i64) (.pair (.int .i64) (.pair (.int .i64) (.slice (.int .u8))))) b)))), (5, .one (.c (.own 0 (.pair (.int .i64) (.pair (.int .i64) (.pair (.int .i64) (.slice (.int .u8))))) (out ++ [r542_1]))))], [(0, some ⟨82, 0⟩)], [], 1⟩ [(0 : Int) ≤ 0 ∧ 0 < (((b).length : Nat) : Int), FnOK Go.Proofs.Try.prog 95 (f95_capture_copied_in ((b.getD 0 (0, (0, (0, [])))).1) (((b.getD 0 (0, (0, (0, [])))).2).1) ((((b.getD 0 (0, (0, (0, [])))).2).2).1) ((((b.getD 0 (0, (0, (0, [])))).2).2).2)) (f95_capture_copied_out r542_1), out.length + [r542_1].length ≤ maxLen ∧ (out.length + [r542_1].length) * 48 ≤ 140737488355328] (by kernel_rfl) ⟨g542_0, (f95_capture_copied_ok ((b.getD 0 (0, (0, (0, [])))).1) (((b.getD 0 (0, (0, (0, [])))).2).1) ((((b.getD 0 (0, (0, (0, [])))).2).2).1) ((((b.getD 0 (0, (0, (0, [])))).2).2).2) r542_1 cr542_1), g542_2, trivial⟩ ?_
            obtain ⟨g543_0, h⟩ := ifS h
            refine At.step hm ht ⟨[], [], [], [0, 1, 5], [0]⟩ 2 ⟨[(0, .one (.c (.d (.sl (.pair (.int .i64) (.pair (.int .i64) (.pair (.int .i64) (.slice (.int .u8))))) a)))), (1, .one (.c (.d (.sl (.pair (.int .i64) (.pair (.int .i64) (.pair (.int .i64) (.slice (.int .u8))))) ((b.take b.length).drop 1))))), (5, .one (.c (.own 0 (.pair (.int .i64) (.pair (.int .i64) (.pair (.int .i64) (.slice (.int .u8))))) (out ++ [r542_1]))))], [(0, some ⟨82, 0⟩)], [], 1⟩ [cutOk b.length (some 1) none none] (by kernel_rfl) ⟨g543_0, trivial⟩ ?_
            exact ih a ((b.take b.length).drop 1) (out ++ [r542_1]) w h o hk
        · refine At.step hm ht ⟨[(3, .b false), (7, .b false)], [false], [], [0, 1, 5], [0]⟩ 6 ⟨[(0, .one (.c (.d (.sl (.pair (.int .i64) (.pair (.int .i64) (.pair (.int .i64) (.slice (.int .u8))))) a)))), (1, .one (.c (.d (.sl (.pair (.int .i64) (.pair (.int .i64) (.pair (.int .i64) (.slice (.int .u8))))) b)))), (5, .one (.c (.own 0 (.pair (.int .i64) (.pair (.int .i64) (.pair (.int .i64) (.slice (.int .u8))))) out)))], [(0, some ⟨82, 0⟩)], [], 1⟩ [((((b.length : Nat) : Int) : Int) == 0) = false, (decide ((((a.length : Nat) : Int) : Int) > 0)) = false, false = false] (by kernel_rfl) ⟨b537_3, b537_7, rfl, trivial⟩ ?_
          obtain ⟨g544_0, h⟩ := ifS h
          obtain ⟨r544_1, cr544_1, h⟩ := bindS h
          obtain ⟨g544_2, h⟩ := ifS h
          refine At.step hm ht ⟨[(4, .call [] [] (f95_capture_copied_out r544_1))], [], [], [0, 1, 5], [8]⟩ 7 ⟨[(0, .one (.c (.d (.sl (.pair (.int .i64) (.pair (.int .i64) (.pair (.int .i64) (.slice (.int .u8))))) a)))), (1, .one (.c (.d (.sl (.pair (.int .i64) (.pair (.int .i64) (.pair (.int .i64) (.slice (.int .u8))))) b)))), (5, .one (.c (.own 0 (.pair (.int .i64) (.pair (.int .i64) (.pair (.int .i64) (.slice (.int .u8))))) (out ++ [r544_1]))))], [(0, some ⟨82, 0⟩)], [], 1⟩ [(0 : Int) ≤ 0 ∧ 0 < (((b).length : Nat) : Int), FnOK Go.Proofs.Try.prog 95 (f95_capture_copied_in ((b.getD 0 (0, (0, (0, [])))).1) (((b.getD 0 (0, (0, (0, [])))).2).1) ((((b.getD 0 (0, (0, (0, [])))).2).2).1) ((((b.getD 0 (0, (0, (0, [])))).2).2).2)) (f95_capture_copied_out r544_1), out.length + [r544_1].length ≤ maxLen ∧ (out.length + [r544_1].length) * 48 ≤ 140737488355328] (by kernel_rfl) ⟨g544_0, (f95_capture_copied_ok ((b.getD 0 (0, (0, (0, [])))).1) (((b.getD 0 (0, (0, (0, [])))).2).1) ((((b.getD 0 (0, (0, (0, [])))).2).2).1) ((((b.getD 0 (0, (0, (0, [])))).2).2).2) r544_1 cr544_1), g544_2, trivial⟩ ?_
          obtain ⟨g545_0, h⟩ := ifS h
          refine At.step hm ht ⟨[], [], [], [0, 1, 5], [0]⟩ 2 ⟨[(0, .one (.c (.d (.sl (.pair (.int .i64) (.pair (.int .i64) (.pair (.int .i64) (.slice (.int .u8))))) a)))), (1, .one (.c (.d (.sl (.pair (.int .i64) (.pair (.int .i64) (.pair (.int .i64) (.slice (.int .u8))))) ((b.take b.length).drop 1))))), (5, .one (.c (.own 0 (.pair (.int .i64) (.pair (.int .i64) (.pair (.int .i64) (.slice (.int .u8))))) (out ++ [r544_1]))))], [(0, some ⟨82, 0⟩)], [], 1⟩ [cutOk b.length (some 1) none none] (by kernel_rfl) ⟨g545_0, trivial⟩ ?_
          exact ih a ((b.take b.length).drop 1) (out ++ [r544_1]) w h o hk
    · rcases iteS h with ⟨b536_e0, h⟩ | ⟨b536_e0, h⟩
      · refine At.step hm ht ⟨[(3, .b false)], [true], [], [0, 1, 5], [0]⟩ 3 ⟨[(0, .one (.c (.d (.sl (.pair (.int .i64) (.pair (.int .i64) (.pair (.int .i64) (.slice (.int .u8))))) a)))), (1, .one (.c (.d (.sl (.pair (.int .i64) (.pair (.int .i64) (.pair (.int .i64) (.slice (.int .u8))))) b)))), (5, .one (.c (.own 0 (.pair (.int .i64) (.pair (.int .i64) (.pair (.int .i64) (.slice (.int .u8))))) out)))], [(0, some ⟨82, 0⟩)], [], 1⟩ [(decide ((((a.length : Nat) : Int) : Int) > 0)) = false, (decide ((((b.length : Nat) : Int) : Int) > 0)) = true] (by kernel_rfl) ⟨b536_3, b536_e0, trivial⟩ ?_
        rcases iteS h with ⟨b546_3, h⟩ | ⟨b546_3, h⟩
        · refine At.step hm ht ⟨[(3, .b true)], [true], [], [0, 1, 5], [0]⟩ 4 ⟨[(0, .one (.c (.d (.sl (.pair (.int .i64) (.pair (.int .i64) (.pair (.int .i64) (.slice (.int .u8))))) a)))), (1, .one (.c (.d (.sl (.pair (.int .i64) (.pair (.int .i64) (.pair (.int .i64) (.slice (.int .u8))))) b)))), (5, .one (.c (.own 0 (.pair (.int .i64) (.pair (.int .i64) (.pair (.int .i64) (.slice (.int .u8))))) out)))], [(0, some ⟨82, 0⟩)], [], 1⟩ [((((b.length : Nat) : Int) : Int) == 0) = true, true = true] (by kernel_rfl) ⟨b546_3, rfl, trivial⟩ ?_
          obtain ⟨g547_0, h⟩ := ifS h
          obtain ⟨r547_1, cr547_1, h⟩ := bindS h
          obtain ⟨g547_2, h⟩ := ifS h
          refine At.step hm ht ⟨[(4, .call [] [] (f95_capture_copied_out r547_1))], [], [], [0, 1, 5], [8]⟩ 5 ⟨[(0, .one (.c (.d (.sl (.pair (.int .i64) (.pair (.int .i64) (.pair (.int .i64) (.slice (.int .u8))))) a)))), (1, .one (.c (.d (.sl (.pair (.int .i64) (.pair (.int .i64) (.pair (.int .i64) (.slice (.int .u8))))) b)))), (5, .one (.c (.own 0 (.pair (.int .i64) (.pair (.int .i64) (.pair (.int .i64) (.slice (.int .u8))))) (out ++ [r547_1]))))], [(0, some ⟨82, 0⟩)], [], 1⟩ [(0 : Int) ≤ 0 ∧ 0 < (((a).length : Nat) : Int), FnOK Go.Proofs.Try.prog 95 (f95_capture_copied_in ((a.getD 0 (0, (0, (0, [])))).1) (((a.getD 0 (0, (0, (0, [])))).2).1) ((((a.getD 0 (0, (0, (0, [])))).2).2).1) ((((a.getD 0 (0, (0, (0, [])))).2).2).2)) (f95_capture_copied_out r547_1), out.length + [r547_1].length ≤ maxLen ∧ (out.length + [r547_1].length) * 48 ≤ 140737488355328] (by kernel_rfl) ⟨g547_0, (f95_capture_copied_ok ((a.getD 0 (0, (0, (0, [])))).1) (((a.getD 0 (0, (0, (0, [])))).2).1) ((((a.getD 0 (0, (0, (0, [])))).2).2).1) ((((a.getD 0 (0, (0, (0, [])))).2).2).2) r547_1 cr547_1), g547_2, trivial⟩ ?_
          obtain ⟨g548_0, h⟩ := ifS h
          refine At.step hm ht ⟨[], [], [], [0, 1, 5], [0]⟩ 2 ⟨[(0, .one (.c (.d (.sl (.pair (.int .i64) (.pair (.int .i64) (.pair (.int .i64) (.slice (.int .u8))))) ((a.take a.length).drop 1))))), (1, .one (.c (.d (.sl (.pair (.int .i64) (.pair (.int .i64) (.pair (.int .i64) (.slice (.int .u8))))) b)))), (5, .one (.c (.own 0 (.pair (.int .i64) (.pair (.int .i64) (.pair (.int .i64) (.slice (.int .u8))))) (out ++ [r547_1]))))], [(0, some ⟨82, 0⟩)], [], 1⟩ [cutOk a.length (some 1) none none] (by kernel_rfl) ⟨g548_0, trivial⟩ ?_
          exact ih ((a.take a.length).drop 1) b (out ++ [r547_1]) w h o hk
        · rcases iteS h with ⟨b546_7, h⟩ | ⟨b546_7, h⟩
          · obtain ⟨g546_0, h⟩ := ifS h
            obtain ⟨g546_1, h⟩ := ifS h
            rcases iteS h with ⟨b546_e0, h⟩ | ⟨b546_e0, h⟩
            · refine At.step hm ht ⟨[(3, .b false), (7, .b true)], [true], [], [0, 1, 5], [0]⟩ 4 ⟨[(0, .one (.c (.d (.sl (.pair (.int .i64) (.pair (.int .i64) (.pair (.int .i64) (.slice (.int .u8))))) a)))), (1, .one (.c (.d (.sl (.pair (.int .i64) (.pair (.int .i64) (.pair (.int .i64) (.slice (.int .u8))))) b)))), (5, .one (.c (.own 0 (.pair (.int .i64) (.pair (.int .i64) (.pair (.int .i64) (.slice (.int .u8))))) out)))], [(0, some ⟨82, 0⟩)], [], 1⟩ [((((b.length : Nat) : Int) : Int) == 0) = false, (decide ((((a.length : Nat) : Int) : Int) > 0)) = true, (0 : Int) ≤ 0 ∧ 0 < (((a).length : Nat) : Int), (0 : Int) ≤ 0 ∧ 0 < (((b).length : Nat) : Int), (decide ((((a.getD 0 (0, (0, (0, [])))).1) : Int) ≤ ((b.getD 0 (0, (0, (0, [])))).1))) = true] (by kernel_rfl) ⟨b546_3, b546_7, g546_0, g546_1, b546_e0, trivial⟩ ?_
              obtain ⟨g549_0, h⟩ := ifS h
              obtain ⟨r549_1, cr549_1, h⟩ := bindS h
              obtain ⟨g549_2, h⟩ := ifS h
              refine At.step hm ht ⟨[(4, .call [] [] (f95_capture_copied_out r549_1))], [], [], [0, 1, 5], [8]⟩ 5 ⟨[(0, .one (.c (.d (.sl (.pair (.int .i64) (.pair (.int .i64) (.pair (.int .i64) (.slice (.int .u8))))) a)))), (1, .one (.c (.d (.sl (.pair (.int .i64) (.pair (.int .i64) (.pair (.int .i64) (.slice (.int .u8))))) b)))), (5, .one (.c (.own 0 (.pair (.int .i64) (.pair (.int .i64) (.pair (.int .i64) (.slice (.int .u8))))) (out ++ [r549_1]))))], [(0, some ⟨82, 0⟩)], [], 1⟩ [(0 : Int) ≤ 0 ∧ 0 < (((a).length : Nat) : Int), FnOK Go.Proofs.Try.prog 95 (f95_capture_copied_in ((a.getD 0 (0, (0, (0, [])))).1) (((a.getD 0 (0, (0, (0, [])))).2).1) ((((a.getD 0 (0, (0, (0, [])))).2).2).1) ((((a.getD 0 (0, (0, (0, [])))).2).2).2)) (f95_capture_copied_out r549_1), out.length + [r549_1].length ≤ maxLen ∧ (out.length + [r549_1].length) * 48 ≤ 140737488355328] (by kernel_rfl) ⟨g549_0, (f95_capture_copied_ok ((a.getD 0 (0, (0, (0, [])))).1) (((a.getD 0 (0, (0, (0, [])))).2).1) ((((a.getD 0 (0, (0, (0, [])))).2).2).1) ((((a.getD 0 (0, (0, (0, [])))).2).2).2) r549_1 cr549_1), g549_2, trivial⟩ ?_
              obtain ⟨g550_0, h⟩ := ifS h
              refine At.step hm ht ⟨[], [], [], [0, 1, 5], [0]⟩ 2 ⟨[(0, .one (.c (.d (.sl (.pair (.int .i64) (.pair (.int .i64) (.pair (.int .i64) (.slice (.int .u8))))) ((a.take a.length).drop 1))))), (1, .one (.c (.d (.sl (.pair (.int .i64) (.pair (.int .i64) (.pair (.int .i64) (.slice (.int .u8))))) b)))), (5, .one (.c (.own 0 (.pair (.int .i64) (.pair (.int .i64) (.pair (.int .i64) (.slice (.int .u8))))) (out ++ [r549_1]))))], [(0, some ⟨82, 0⟩)], [], 1⟩ [cutOk a.length (some 1) none none] (by kernel_rfl) ⟨g550_0, trivial⟩ ?_
              exact ih ((a.take a.length).drop 1) b (out ++ [r549_1]) w h o hk
            · refine At.step hm ht ⟨[(3, .b false), (7, .b true)], [false], [], [0, 1, 5], [0]⟩ 6 ⟨[(0, .one (.c (.d (.sl (.pair (.int .i64) (.pair (.int .i64) (.pair (.int .i64) (.slice (.int .u8))))) a)))), (1, .one (.c (.d (.sl (.pair (.int .i64) (.pair (.int .i64) (.pair (.int .i64) (.slice (.int .u8))))) b)))), (5, .one (.c (.own 0 (.pair (.int .i64) (.pair (.int .i64) (.pair (.int .i64) (.slice (.int .u8))))) out)))], [(0, some ⟨82, 0⟩)], [], 1⟩ [((((b.length : Nat) : Int) : Int) == 0) = false, (decide ((((a.length : Nat) : Int) : Int) > 0)) = true, (0 : Int) ≤ 0 ∧ 0 < (((a).length : Nat) : Int), (0 : Int) ≤ 0 ∧ 0 < (((b).length : Nat) : Int), (decide ((((a.getD 0 (0, (0, (0, [])))).1) : Int) ≤ ((b.getD 0 (0, (0, (0, [])))).1))) = false] (by kernel_rfl) ⟨b546_3, b546_7, g546_0, g546_1, b546_e0, trivial⟩ ?_
              obtain ⟨g551_0, h⟩ := ifS h
              obtain ⟨r551_1, cr551_1, h⟩ := bindS h
              obtain ⟨g551_2, h⟩ := ifS h
              refine At.step hm ht ⟨[(4, .call [] [] (f95_capture_copied_out r551_1))], [], [], [0, 1, 5], [8]⟩ 7 ⟨[(0, .one (.c (.d (.sl (.pair (.int .i64) (.pair (.int .i64) (.pair (.int .i64) (.slice (.int .u8))))) a)))), (1, .one (.c (.d (.sl (.pair (.int .i64) (.pair (.int .i64) (.pair (.int .i64) (.slice (.int .u8))))) b)))), (5, .one (.c (.own 0 (.pair (.int .i64) (.pair (.int .i64) (.pair (.int .i64) (.slice (.int .u8))))) (out ++ [r551_1]))))], [(0, some ⟨82, 0⟩)], [], 1⟩ [(0 : Int) ≤ 0 ∧ 0 < (((b).length : Nat) : Int), FnOK Go.Proofs.Try.prog 95 (f95_capture_copied_in ((b.getD 0 (0, (0, (0, [])))).1) (((b.getD 0 (0, (0, (0, [])))).2).1) ((((b.getD 0 (0, (0, (0, [])))).2).2).1) ((((b.getD 0 (0, (0, (0, [])))).2).2).2)) (f95_capture_copied_out r551_1), out.length + [r551_1].length ≤ maxLen ∧ (out.length + [r551_1].length) * 48 ≤ 140737488355328] (by kernel_rfl) ⟨g551_0, (f95_capture_copied_ok ((b.getD 0 (0, (0, (0, [])))).1) (((b.getD 0 (0, (0, (0, [])))).2).1) ((((b.getD 0 (0, (0, (0, [])))).2).2).1) ((((b.getD 0 (0, (0, (0, [])))).2).2).2) r551_1 cr551_1), g551_2, trivial⟩ ?_
              obtain ⟨g552_0, h⟩ := ifS h
              refine At.step hm ht ⟨[], [], [], [0, 1, 5], [0]⟩ 2 ⟨[(0, .one (.c (.d (.sl (.pair (.int .i64) (.pair (.int .i64) (.pair (.int .i64) (.slice (.int .u8))))) a)))), (1, .one (.c (.d (.sl (.pair (.int .i64) (.pair (.int .i64) (.pair (.int .i64) (.slice (.int .u8))))) ((b.take b.length).drop 1))))), (5, .one (.c (.own 0 (.pair (.int .i64) (.pair (.int .i64) (.pair (.int .i64) (.slice (.int .u8))))) (out ++ [r551_1]))))], [(0, some ⟨82, 0⟩)], [], 1⟩ [cutOk b.length (some 1) none none] (by kernel_rfl) ⟨g552_0, trivial⟩ ?_
              exact ih a ((b.take b.length).drop 1) (out ++ [r551_1]) w h o hk
          · refine At.step hm ht ⟨[(3, .b false), (7, .b false)], [false], [], [0, 1, 5], [0]⟩ 6 ⟨[(0, .one (.c (.d (.sl (.pair (.int .i64) (.pair (.int .i64) (.pair (.int .i64) (.slice (.int .u8))))) a)))), (1, .one (.c (.d (.sl (.pair (.int .i64) (.pair (.int .i64) (.pair (.int .i64) (.slice (.int .u8))))) b)))), (5, .one (.c (.own 0 (.pair (.int .i64) (.pair (.int .i64) (.pair (.int .i64) (.slice (.int .u8))))) out)))], [(0, some ⟨82, 0⟩)], [], 1⟩ [((((b.length : Nat) : Int) : Int) == 0) = false, (decide ((((a.length : Nat) : Int) : Int) > 0)) = false, false = false] (by kernel_rfl) ⟨b546_3, b546_7, rfl, trivial⟩ ?_
            obtain ⟨g553_0, h⟩ := ifS h
            obtain ⟨r553_1, cr553_1, h⟩ := bindS h
            obtain ⟨g553_2, h⟩ := ifS h
            refine At.step hm ht ⟨[(4, .call [] [] (f95_capture_copied_out r553_1))], [], [], [0, 1, 5], [8]⟩ 7 ⟨[(0, .one (.c (.d (.sl (.pair (.int .i64) (.pair (.int .i64) (.pair (.int .i64) (.slice (.int .u8))))) a)))), (1, .one (.c (.d (.sl (.pair (.int .i64) (.pair (.int .i64) (.pair (.int .i64) (.slice (.int .u8))))) b)))), (5, .one (.c (.own 0 (.pair (.int .i64) (.pair (.int .i64) (.pair (.int .i64) (.slice (.int .u8))))) (out ++ [r553_1]))))], [(0, some ⟨82, 0⟩)], [], 1⟩ [(0 : Int) ≤ 0 ∧ 0 < (((b).length : Nat) : Int), FnOK Go.Proofs.Try.prog 95 (f95_capture_copied_in ((b.getD 0 (0, (0, (0, [])))).1) (((b.getD 0 (0, (0, (0, [])))).2).1) ((((b.getD 0 (0, (0, (0, [])))).2).2).1) ((((b.getD 0 (0, (0, (0, [])))).2).2).2)) (f95_capture_copied_out r553_1), out.length + [r553_1].length ≤ maxLen ∧ (out.length + [r553_1].length) * 48 ≤ 140737488355328] (by kernel_rfl) ⟨g553_0, (f95_capture_copied_ok ((b.getD 0 (0, (0, (0, [])))).1) (((b.getD 0 (0, (0, (0, [])))).2).1) ((((b.getD 0 (0, (0, (0, [])))).2).2).1) ((((b.getD 0 (0, (0, (0, [])))).2).2).2) r553_1 cr553_1), g553_2, trivial⟩ ?_
            obtain ⟨g554_0, h⟩ := ifS h
            refine At.step hm ht ⟨[], [], [], [0, 1, 5], [0]⟩ 2 ⟨[(0, .one (.c (.d (.sl (.pair (.int .i64) (.pair (.int .i64) (.pair (.int .i64) (.slice (.int .u8))))) a)))), (1, .one (.c (.d (.sl (.pair (.int .i64) (.pair (.int .i64) (.pair (.int .i64) (.slice (.int .u8))))) ((b.take b.length).drop 1))))), (5, .one (.c (.own 0 (.pair (.int .i64) (.pair (.int .i64) (.pair (.int .i64) (.slice (.int .u8))))) (out ++ [r553_1]))))], [(0, some ⟨82, 0⟩)], [], 1⟩ [cutOk b.length (some 1) none none] (by kernel_rfl) ⟨g554_0, trivial⟩ ?_
            exact ih a ((b.take b.length).drop 1) (out ++ [r553_1]) w h o hk
      · refine At.step hm ht ⟨[(3, .b false)], [false], [], [5], [0]⟩ 8 ⟨[(5, .one (.c (.own 0 (.pair (.int .i64) (.pair (.int .i64) (.pair (.int .i64) (.slice (.int .u8))))) out)))], [(0, some ⟨82, 0⟩)], [], 1⟩ [(decide ((((a.length : Nat) : Int) : Int) > 0)) = false, (decide ((((b.length : Nat) : Int) : Int) > 0)) = false] (by kernel_rfl) ⟨b536_3, b536_e0, trivial⟩ ?_
        have h := Option.some.inj h
        subst h
        exact hk
def f42_capture_Merge (n : Nat) (a : List (Int × Int × Int × List Int)) (b : List (Int × Int × Int × List Int)) : Option (List (Int × Int × Int × List Int)) :=
  (f42_capture_Merge_L2 n a b []).bind fun w555 =>
  some w555
theorem f42_capture_Merge_ok (n : Nat) (a : List (Int × Int × Int × List Int)) (b : List (Int × Int × Int × List Int)) (r : List (Int × Int × Int × List Int)) (h : f42_capture_Merge n a b = some r) : FnOK Go.Proofs.Try.prog 42 (f42_capture_Merge_in a b) (f42_capture_Merge_out r) := by
  unfold f42_capture_Merge at h
  refine At.fn (r := 0) Go.Proofs.Try.func42 rfl (by kernel_rfl) rfl rfl (by kernel_rfl) ?_
  show At Go.Proofs.Try.prog Go.Proofs.Try.f42 0 0 ⟨[(0, .one (.c (.d (.sl (.pair (.int .i64) (.pair (.int .i64) (.pair (.int .i64) (.slice (.int .u8))))) a)))), (1, .one (.c (.d (.sl (.pair (.int .i64) (.pair (.int .i64) (.pair (.int .i64) (.slice (.int .u8))))) b))))], [], [], 0⟩ _
  refine At.step hm ht ⟨[], [], [], [0, 1], []⟩ 1 ⟨[(0, .one (.c (.d (.sl (.pair (.int .i64) (.pair (.int .i64) (.pair (.int .i64) (.slice (.int .u8))))) a)))), (1, .one (.c (.d (.sl (.pair (.int .i64) (.pair (.int .i64) (.pair (.int .i64) (.slice (.int .u8))))) b))))], [], [], 0⟩ [] (by kernel_rfl) trivial ?_
  refine At.step hm ht ⟨[], [], [.nil false 5 0 (.pair (.int .i64) (.pair (.int .i64) (.pair (.int .i64) (.slice (.int .u8))))) (some 82)], [0, 1, 5], [1]⟩ 2 ⟨[(0, .one (.c (.d (.sl (.pair (.int .i64) (.pair (.int .i64) (.pair (.int .i64) (.slice (.int .u8))))) a)))), (1, .one (.c (.d (.sl (.pair (.int .i64) (.pair (.int .i64) (.pair (.int .i64) (.slice (.int .u8))))) b)))), (5, .one (.c (.own 0 (.pair (.int .i64) (.pair (.int .i64) (.pair (.int .i64) (.slice (.int .u8))))) [])))], [(0, some ⟨82, 0⟩)], [], 1⟩ [] (by kernel_rfl) trivial ?_
  obtain ⟨w555, cw555, h⟩ := bindS h
  refine f42_capture_Merge_L2_ok n a b [] w555 cw555 _ ?_
  show At Go.Proofs.Try.prog Go.Proofs.Try.f42 0 8 ⟨[(5, .one (.c (.own 0 (.pair (.int .i64) (.pair (.int .i64) (.pair (.int .i64) (.slice (.int .u8))))) w555)))], [(0, some ⟨82, 0⟩)], [], 1⟩ _
  have h := Option.some.inj h
  subst h
  exact At.fin hm ht ⟨[], [], [], [4], [0]⟩ [] (by kernel_rfl) trivial
/-! brougham/capture.Between -/
def f43_capture_Between_in (l : List (Int × Int × Int × List Int)) (from_ : Int) (to_ : Int) : Inn := ⟨[.c (.d (.sl (.pair (.int .i64) (.pair (.int .i64) (.pair (.int .i64) (.slice (.int .u8))))) l)), .c (.d (.int .i64 from_)), .c (.d (.int .i64 to_))], [], [], 0⟩
def f43_capture_Between_out (r : List (Int × Int × Int × List Int)) : Out := ⟨.one (.c (.own 0 (.pair (.int .i64) (.pair (.int .i64) (.pair (.int .i64) (.slice (.int .u8))))) r)), [(0, ⟨82, 0⟩)], [], 1⟩
def f43_capture_Between_L3 : Nat → Int → Int → (List (Int × Int × Int × List Int)) → (List (Int × Int × Int × List Int)) → Int → Int → Option (List (Int × Int × Int × List Int))
  | 0, _, _, _, _, _, _ => none
  | n + 1, from_, to_, out, t10, t11, t12 =>
    if (decide ((t12 : Int) < t11)) = true then
      if (0 : Int) ≤ t12 ∧ t12 < (((t10).length : Nat) : Int) then
      if (decide ((((t10.getD t12.toNat (0, (0, (0, [])))).1) : Int) ≥ from_)) = true then
        if (decide ((((t10.getD t12.toNat (0, (0, (0, [])))).1) : Int) < to_)) = true then
          (f95_capture_copied ((t10.getD t12.toNat (0, (0, (0, [])))).1) (((t10.getD t12.toNat (0, (0, (0, [])))).2).1) ((((t10.getD t12.toNat (0, (0, (0, [])))).2).2).1) ((((t10.getD t12.toNat (0, (0, (0, [])))).2).2).2)).bind fun r704_0 =>
          if out.length + [r704_0].length ≤ maxLen ∧ (out.length + [r704_0].length) * 48 ≤ 140737488355328 then
          f43_capture_Between_L3 n from_ to_ (out ++ [r704_0]) t10 t11 (IntKind.wrap .i64 (t12 + 1))
          else none
        else
          f43_capture_Between_L3 n from_ to_ out t10 t11 (IntKind.wrap .i64 (t12 + 1))
      else
        f43_capture_Between_L3 n from_ to_ out t10 t11 (IntKind.wrap .i64 (t12 + 1))
      else none
    else
      some (out)
def f43_capture_Between_L3_k (e : List (Int × Int × Int × List Int)) (o : Out) : Prop := At Go.Proofs.Try.prog Go.Proofs.Try.f43 0 8 ⟨[(7, .one (.c (.own 0 (.pair (.int .i64) (.pair (.int .i64) (.pair (.int .i64) (.slice (.int .u8))))) e)))], [(0, some ⟨82, 0⟩)], [], 1⟩ o
theorem f43_capture_Between_L3_ok (n : Nat) : ∀ (from_ : Int) (to_ : Int) (out : List (Int × Int × Int × List Int)) (t10 : List (Int × Int × Int × List Int)) (t11 : Int) (t12 : Int) (w : List (Int × Int × Int × List Int)) (h : f43_capture_Between_L3 n from_ to_ out t10 t11 t12 = some w) (o : Out) (hk : f43_capture_Between_L3_k w o), At Go.Proofs.Try.prog Go.Proofs.Try.f43 0 3 ⟨[(1, .one (.c (.d (.int .i64 from_)))), (2, .one (.c (.d (.int .i64 to_)))), (7, .one (.c (.own 0 (.pair (.int .i64) (.pair (.int .i64) (.pair (.int .i64) (.slice (.int .u8))))) out))), (10, .one (.c (.d (.sl (.pair (.int .i64) (.pair (.int .i64) (.pair (.int .i64) (.slice (.int .u8))))) t10)))), (11, .one (.c (.d (.int .i64 t11)))), (12, .one (.c (.d (.int .i64 t12))))], [(0, some ⟨82, 0⟩)], [], 1⟩ o := by
  induction n with
  | zero => intro from_ to_ out t10 t11 t12 w h; rw [f43_capture_Between_L3] at h; cases h
  | succ n ih =>
    intro from_ to_ out t10 t11 t12 w h o hk
    rw [f43_capture_Between_L3] at h
    rcases iteS h with ⟨b701_e0, h⟩ | ⟨b701_e0, h⟩
    · refine At.step hm ht ⟨[], [true], [], [1, 2, 7, 10, 11, 12], [0]⟩ 4 ⟨[(1, .one (.c (.d (.int .i64 from_)))), (2, .one (.c (.d (.int .i64 to_)))), (7, .one (.c (.own 0 (.pair (.int .i64) (.pair (.int .i64) (.pair (.int .i64) (.slice (.int .u8))))) out))), (10, .one (.c (.d (.sl (.pair (.int .i64) (.pair (.int .i64) (.pair (.int .i64) (.slice (.int .u8))))) t10)))), (11, .one (.c (.d (.int .i64 t11)))), (12, .one (.c (.d (.int .i64 t12))))], [(0, some ⟨82, 0⟩)], [], 1⟩ [(decide ((t12 : Int) < t11)) = true] (by kernel_rfl) ⟨b701_e0, trivial⟩ ?_
      obtain ⟨g702_0, h⟩ := ifS h
      refine At.step hm ht ⟨[], [], [], [1, 2, 7, 9, 10, 11, 12], [0, 3]⟩ 5 ⟨[(1, .one (.c (.d (.int .i64 from_)))), (2, .one (.c (.d (.int .i64 to_)))), (7, .one (.c (.own 0 (.pair (.int .i64) (.pair (.int .i64) (.pair (.int .i64) (.slice (.int .u8))))) out))), (9, .one (.c (.ptr 1 0))), (10, .one (.c (.d (.sl (.pair (.int .i64) (.pair (.int .i64) (.pair (.int .i64) (.slice (.int .u8))))) t10)))), (11, .one (.c (.d (.int .i64 t11)))), (12, .one (.c (.d (.int .i64 t12))))], [(0, some ⟨82, 0⟩)], [(1, [.d (.int .i64 ((t10.getD t12.toNat (0, (0, (0, [])))).1)), .d (.int .i64 (((t10.getD t12.toNat (0, (0, (0, [])))).2).1)), .d (.int .i64 ((((t10.getD t12.toNat (0, (0, (0, [])))).2).2).1)), .d (.sl (.int .u8) ((((t10.getD t12.toNat (0, (0, (0, [])))).2).2).2))])], 2⟩ [(0 : Int) ≤ t12 ∧ t12 < (((t10).length : Nat) : Int), 0 + 4 ≤ 4] (by kernel_rfl) ⟨g702_0, (by decide), trivial⟩ ?_
      rcases iteS h with ⟨b703_4, h⟩ | ⟨b703_4, h⟩
      · rcases iteS h with ⟨b703_e0, h⟩ | ⟨b703_e0, h⟩
        · refine At.step hm ht ⟨[(4, .b true)], [true], [], [1, 2, 7, 9, 10, 11, 12], [0, 1]⟩ 6 ⟨[(1, .one (.c (.d (.int .i64 from_)))), (2, .one (.c (.d (.int .i64 to_)))), (7, .one (.c (.own 0 (.pair (.int .i64) (.pair (.int .i64) (.pair (.int .i64) (.slice (.int .u8))))) out))), (9, .one (.c (.ptr 1 0))), (10, .one (.c (.d (.sl (.pair (.int .i64) (.pair (.int .i64) (.pair (.int .i64) (.slice (.int .u8))))) t10)))), (11, .one (.c (.d (.int .i64 t11)))), (12, .one (.c (.d (.int .i64 t12))))], [(0, some ⟨82, 0⟩)], [(1, [.d (.int .i64 ((t10.getD t12.toNat (0, (0, (0, [])))).1)), .d (.int .i64 (((t10.getD t12.toNat (0, (0, (0, [])))).2).1)), .d (.int .i64 ((((t10.getD t12.toNat (0, (0, (0, [])))).2).2).1)), .d (.sl (.int .u8) ((((t10.getD t12.toNat (0, (0, (0, [])))).2).2).2))])], 2⟩ [(decide ((((t10.getD t12.toNat (0, (0, (0, [])))).1) : Int) ≥ from_)) = true, (decide ((((t10.getD t12.toNat (0, (0, (0, [])))).1) : Int) < to_)) = true] (by kernel_rfl) ⟨b703_4, b703_e0, trivial⟩ ?_
          obtain ⟨r704_0, cr704_0, h⟩ := bindS h
          obtain ⟨g704_1, h⟩ := ifS h
          refine At.step hm ht ⟨[(2, .call [] [] (f95_capture_copied_out r704_0))], [], [], [1, 2, 7, 10, 11, 12], [7]⟩ 7 ⟨[(1, .one (.c (.d (.int .i64 from_)))), (2, .one (.c (.d (.int .i64 to_)))), (7, .one (.c (.own 0 (.pair (.int .i64) (.pair (.int .i64) (.pair (.int .i64) (.slice (.int .u8))))) (out ++ [r704_0])))), (10, .one (.c (.d (.sl (.pair (.int .i64) (.pair (.int .i64) (.pair (.int .i64) (.slice (.int .u8))))) t10)))), (11, .one (.c (.d (.int .i64 t11)))), (12, .one (.c (.d (.int .i64 t12))))], [(0, some ⟨82, 0⟩)], [], 1⟩ [FnOK Go.Proofs.Try.prog 95 (f95_capture_copied_in ((t10.getD t12.toNat (0, (0, (0, [])))).1) (((t10.getD t12.toNat (0, (0, (0, [])))).2).1) ((((t10.getD t12.toNat (0, (0, (0, [])))).2).2).1) ((((t10.getD t12.toNat (0, (0, (0, [])))).2).2).2)) (f95_capture_copied_out r704_0), out.length + [r704_0].length ≤ maxLen ∧ (out.length + [r704_0].length) * 48 ≤ 140737488355328] (by kernel_rfl) ⟨(f95_capture_copied_ok ((t10.getD t12.toNat (0, (0, (0, [])))).1) (((t10.getD t12.toNat (0, (0, (0, [])))).2).1) ((((t10.getD t12.toNat (0, (0, (0, [])))).2).2).1) ((((t10.getD t12.toNat (0, (0, (0, [])))).2).2).2) r704_0 cr704_0), g704_1, trivial⟩ ?_
          refine At.step hm ht ⟨[], [], [], [1, 2, 7, 10, 11, 12], [0]⟩ 3 ⟨[(1, .one (.c (.d (.int .i64 from_)))), (2, .one (.c (.d (.int .i64 to_)))), (7, .one (.c (.own 0 (.pair (.int .i64) (.pair (.int .i64) (.pair (.int .i64) (.slice (.int .u8))))) (out ++ [r704_0])))), (10, .one (.c (.d (.sl (.pair (.int .i64) (.pair (.int .i64) (.pair (.int .i64) (.slice (.int .u8))))) t10)))), (11, .one (.c (.d (.int .i64 t11)))), (12, .one (.c (.d (.int .i64 (IntKind.wrap .i64 (t12 + 1))))))], [(0, some ⟨82, 0⟩)], [], 1⟩ [] (by kernel_rfl) trivial ?_
          exact ih from_ to_ (out ++ [r704_0]) t10 t11 (IntKind.wrap .i64 (t12 + 1)) w h o hk
        · refine At.step hm ht ⟨[(4, .b true)], [false], [], [1, 2, 7, 10, 11, 12], [0]⟩ 7 ⟨[(1, .one (.c (.d (.int .i64 from_)))), (2, .one (.c (.d (.int .i64 to_)))), (7, .one (.c (.own 0 (.pair (.int .i64) (.pair (.int .i64) (.pair (.int .i64) (.slice (.int .u8))))) out))), (10, .one (.c (.d (.sl (.pair (.int .i64) (.pair (.int .i64) (.pair (.int .i64) (.slice (.int .u8))))) t10)))), (11, .one (.c (.d (.int .i64 t11)))), (12, .one (.c (.d (.int .i64 t12))))], [(0, some ⟨82, 0⟩)], [], 1⟩ [(decide ((((t10.getD t12.toNat (0, (0, (0, [])))).1) : Int) ≥ from_)) = true, (decide ((((t10.getD t12.toNat (0, (0, (0, [])))).1) : Int) < to_)) = false] (by kernel_rfl) ⟨b703_4, b703_e0, trivial⟩ ?_
          refine At.step hm ht ⟨[], [], [], [1, 2, 7, 10, 11, 12], [0]⟩ 3 ⟨[(1, .one (.c (.d (.int .i64 from_)))), (2, .one (.c (.d (.int .i64 to_)))), (7, .one (.c (.own 0 (.pair (.int .i64) (.pair (.int .i64) (.pair (.int .i64) (.slice (.int .u8))))) out))), (10, .one (.c (.d (.sl (.pair (.int .i64) (.pair (.int .i64) (.pair (.int .i64) (.slice (.int .u8))))) t10)))), (11, .one (.c (.d (.int .i64 t11)))), (12, .one (.c (.d (.int .i64 (IntKind.wrap .i64 (t12 + 1))))))], [(0, some ⟨82, 0⟩)], [], 1⟩ [] (by kernel_rfl) trivial ?_
          exact ih from_ to_ out t10 t11 (IntKind.wrap .i64 (t12 + 1)) w h o hk
      · refine At.step hm ht ⟨[(4, .b false)], [false], [], [1, 2, 7, 10, 11, 12], [0]⟩ 7 ⟨[(1, .one (.c (.d (.int .i64 from_)))), (2, .one (.c (.d (.int .i64 to_)))), (7, .one (.c (.own 0 (.pair (.int .i64) (.pair (.int .i64) (.pair (.int .i64) (.slice (.int .u8))))) out))), (10, .one (.c (.d (.sl (.pair (.int .i64) (.pair (.int .i64) (.pair (.int .i64) (.slice (.int .u8))))) t10)))), (11, .one (.c (.d (.int .i64 t11)))), (12, .one (.c (.d (.int .i64 t12))))], [(0, some ⟨82, 0⟩)], [], 1⟩ [(decide ((((t10.getD t12.toNat (0, (0, (0, [])))).1) : Int) ≥ from_)) = false, false = false] (by kernel_rfl) ⟨b703_4, rfl, trivial⟩ ?_
        refine At.step hm ht ⟨[], [], [], [1, 2, 7, 10, 11, 12], [0]⟩ 3 ⟨[(1, .one (.c (.d (.int .i64 from_)))), (2, .one (.c (.d (.int .i64 to_)))), (7, .one (.c (.own 0 (.pair (.int .i64) (.pair (.int .i64) (.pair (.int .i64) (.slice (.int .u8))))) out))), (10, .one (.c (.d (.sl (.pair (.int .i64) (.pair (.int .i64) (.pair (.int .i64) (.slice (.int .u8))))) t10)))), (11, .one (.c (.d (.int .i64 t11)))), (12, .one (.c (.d (.int .i64 (IntKind.wrap .i64 (t12 + 1))))))], [(0, some ⟨82, 0⟩)], [], 1⟩ [] (by kernel_rfl) trivial ?_
        exact ih from_ to_ out t10 t11 (IntKind.wrap .i64 (t12 + 1)) w h o hk
    · refine At.step hm ht ⟨[], [false], [], [7], [0]⟩ 8 ⟨[(7, .one (.c (.own 0 (.pair (.int .i64) (.pair (.int .i64) (.pair (.int .i64) (.slice (.int .u8))))) out)))], [(0, some ⟨82, 0⟩)], [], 1⟩ [(decide ((t12 : Int) < t11)) = false] (by kernel_rfl) ⟨b701_e0, trivial⟩ ?_
      have h := Option.some.inj h
      subst h
      exact hk
def f43_capture_Between (n : Nat) (l : List (Int × Int × Int × List Int)) (from_ : Int) (to_ : Int) : Option (List (Int × Int × Int × List Int)) :=
  (f43_capture_Between_L3 n from_ to_ [] l ((l.length : Nat) : Int) 0).bind fun w708 =>
  some w708
theorem f43_capture_Between_ok (n : Nat) (l : List (Int × Int × Int × List Int)) (from_ : Int) (to_ : Int) (r : List (Int × Int × Int × List Int)) (h : f43_capture_Between n l from_ to_ = some r) : FnOK Go.Proofs.Try.prog 43 (f43_capture_Between_in l from_ to_) (f43_capture_Between_out r) := by
  unfold f43_capture_Between at h
  refine At.fn (r := 0) Go.Proofs.Try.func43 rfl (by kernel_rfl) rfl rfl (by kernel_rfl) ?_
  show At Go.Proofs.Try.prog Go.Proofs.Try.f43 0 0 ⟨[(0, .one (.c (.d (.sl (.pair (.int .i64) (.pair (.int .i64) (.pair (.int .i64) (.slice (.int .u8))))) l)))), (1, .one (.c (.d (.int .i64 from_)))), (2, .one (.c (.d (.int .i64 to_))))], [], [], 0⟩ _
  refine At.step hm ht ⟨[], [], [], [0, 1, 2], []⟩ 1 ⟨[(0, .one (.c (.d (.sl (.pair (.int .i64) (.pair (.int .i64) (.pair (.int .i64) (.slice (.int .u8))))) l)))), (1, .one (.c (.d (.int .i64 from_)))), (2, .one (.c (.d (.int .i64 to_))))], [], [], 0⟩ [] (by kernel_rfl) trivial ?_
  refine At.step hm ht ⟨[], [], [], [0, 1, 2, 7], []⟩ 2 ⟨[(0, .one (.c (.d (.sl (.pair (.int .i64) (.pair (.int .i64) (.pair (.int .i64) (.slice (.int .u8))))) l)))), (1, .one (.c (.d (.int .i64 from_)))), (2, .one (.c (.d (.int .i64 to_)))), (7, .one (.c (.d (.sl .unit []))))], [], [], 0⟩ [] (by kernel_rfl) trivial ?_
  refine At.step hm ht ⟨[], [], [.nil false 7 0 (.pair (.int .i64) (.pair (.int .i64) (.pair (.int .i64) (.slice (.int .u8))))) (some 82)], [1, 2, 7, 10, 11, 12], [3]⟩ 3 ⟨[(1, .one (.c (.d (.int .i64 from_)))), (2, .one (.c (.d (.int .i64 to_)))), (7, .one (.c (.own 0 (.pair (.int .i64) (.pair (.int .i64) (.pair (.int .i64) (.slice (.int .u8))))) []))), (10, .one (.c (.d (.sl (.pair (.int .i64) (.pair (.int .i64) (.pair (.int .i64) (.slice (.int .u8))))) l)))), (11, .one (.c (.d (.int .i64 ((l.length : Nat) : Int))))), (12, .one (.c (.d (.int .i64 0))))], [(0, some ⟨82, 0⟩)], [], 1⟩ [] (by kernel_rfl) trivial ?_
  obtain ⟨w708, cw708, h⟩ := bindS h
  refine f43_capture_Between_L3_ok n from_ to_ [] l ((l.length : Nat) : Int) 0 w708 cw708 _ ?_
  show At Go.Proofs.Try.prog Go.Proofs.Try.f43 0 8 ⟨[(7, .one (.c (.own 0 (.pair (.int .i64) (.pair (.int .i64) (.pair (.int .i64) (.slice (.int .u8))))) w708)))], [(0, some ⟨82, 0⟩)], [], 1⟩ _
  have h := Option.some.inj h
  subst h
  exact At.fin hm ht ⟨[], [], [], [6], [0]⟩ [] (by kernel_rfl) trivial
end Go.Proofs.YtjoibacjpapncaaF34
