/- What the functions compute, and that they do: printed by a program of this session (zgen.py), proved by Zed. -/
import Derived.Test.YtddglebabaaghaaProg
import Derived.Test.YtddglebabaaghaaZedY
namespace Go.Proofs.YtddglebabaaghaaF08
open Go Zed
set_option maxRecDepth 100000
set_option linter.unusedVariables false
def tab : Tab := [(3, ⟨.int .i64, 1, 8, [.int .i64 0], some (.int .i64), none⟩), (4, ⟨.bool, 1, 1, [.bool false], some .bool, none⟩), (5, ⟨.int .u8, 1, 1, [.int .u8 0], some (.int .u8), none⟩), (9, ⟨.str, 1, 16, [.str (⟨#[]⟩ : ByteArray)], some .str, none⟩), (22, ⟨.int .u16, 1, 2, [.int .u16 0], some (.int .u16), none⟩), (23, ⟨.int .u32, 1, 4, [.int .u32 0], some (.int .u32), none⟩), (24, ⟨.slice 30, 1, 24, [.sl .unit []], some (.slice (.pair (.int .u8) (.slice (.int .u8)))), none⟩), (25, ⟨.slice 5, 1, 24, [.sl .unit []], some (.slice (.int .u8)), none⟩), (27, ⟨.struct [(0, 22), (1, 22), (2, 23), (3, 23), (4, 5), (5, 24), (6, 25)], 7, 64, [.int .u16 0, .int .u16 0, .int .u32 0, .int .u32 0, .int .u8 0, .sl .unit [], .sl .unit []], some (.pair (.int .u16) (.pair (.int .u16) (.pair (.int .u32) (.pair (.int .u32) (.pair (.int .u8) (.pair (.slice (.pair (.int .u8) (.slice (.int .u8)))) (.slice (.int .u8)))))))), some [(0, 22), (1, 22), (2, 23), (3, 23), (4, 5), (5, 24), (6, 25)]⟩), (30, ⟨.struct [(0, 5), (1, 25)], 2, 32, [.int .u8 0, .sl .unit []], some (.pair (.int .u8) (.slice (.int .u8))), some [(0, 5), (1, 25)]⟩), (36, ⟨.int .u64, 1, 8, [.int .u64 0], some (.int .u64), none⟩), (38, ⟨.struct [(0, 36)], 1, 8, [.int .u64 0], some (.int .u64), some [(0, 36)]⟩), (40, ⟨.struct [(0, 36), (1, 4), (2, 38)], 3, 24, [.int .u64 0, .bool false, .int .u64 0], some (.pair (.int .u64) (.pair .bool (.int .u64))), some [(0, 36), (1, 4), (2, 38)]⟩), (42, ⟨.struct [(0, 23), (1, 23), (2, 5), (3, 4), (4, 4), (5, 38)], 6, 24, [.int .u32 0, .int .u32 0, .int .u8 0, .bool false, .bool false, .int .u64 0], some (.pair (.int .u32) (.pair (.int .u32) (.pair (.int .u8) (.pair .bool (.pair .bool (.int .u64)))))), some [(0, 23), (1, 23), (2, 5), (3, 4), (4, 4), (5, 38)]⟩), (44, ⟨.struct [(0, 4), (1, 4), (2, 36), (3, 36), (4, 23), (5, 38)], 6, 40, [.bool false, .bool false, .int .u64 0, .int .u64 0, .int .u32 0, .int .u64 0], some (.pair .bool (.pair .bool (.pair (.int .u64) (.pair (.int .u64) (.pair (.int .u32) (.int .u64)))))), some [(0, 4), (1, 4), (2, 36), (3, 36), (4, 23), (5, 38)]⟩), (46, ⟨.struct [(0, 5), (1, 23), (2, 5), (3, 5), (4, 4), (5, 38)], 6, 24, [.int .u8 0, .int .u32 0, .int .u8 0, .int .u8 0, .bool false, .int .u64 0], some (.pair (.int .u8) (.pair (.int .u32) (.pair (.int .u8) (.pair (.int .u8) (.pair .bool (.int .u64)))))), some [(0, 5), (1, 23), (2, 5), (3, 5), (4, 4), (5, 38)]⟩), (48, ⟨.struct [(0, 40), (3, 42), (9, 44), (15, 46)], 21, 112, [.int .u64 0, .bool false, .int .u64 0, .int .u32 0, .int .u32 0, .int .u8 0, .bool false, .bool false, .int .u64 0, .bool false, .bool false, .int .u64 0, .int .u64 0, .int .u32 0, .int .u64 0, .int .u8 0, .int .u32 0, .int .u8 0, .int .u8 0, .bool false, .int .u64 0], some (.pair (.pair (.int .u64) (.pair .bool (.int .u64))) (.pair (.pair (.int .u32) (.pair (.int .u32) (.pair (.int .u8) (.pair .bool (.pair .bool (.int .u64)))))) (.pair (.pair .bool (.pair .bool (.pair (.int .u64) (.pair (.int .u64) (.pair (.int .u32) (.int .u64)))))) (.pair (.int .u8) (.pair (.int .u32) (.pair (.int .u8) (.pair (.int .u8) (.pair .bool (.int .u64))))))))), some [(0, 40), (3, 42), (9, 44), (15, 46)]⟩), (54, ⟨.struct [(0, 23), (1, 23), (2, 5), (3, 4), (4, 4), (5, 36)], 6, 24, [.int .u32 0, .int .u32 0, .int .u8 0, .bool false, .bool false, .int .u64 0], some (.pair (.int .u32) (.pair (.int .u32) (.pair (.int .u8) (.pair .bool (.pair .bool (.int .u64)))))), some [(0, 23), (1, 23), (2, 5), (3, 4), (4, 4), (5, 36)]⟩), (58, ⟨.struct [(0, 4), (1, 4), (2, 36), (3, 36), (4, 23), (5, 36)], 6, 40, [.bool false, .bool false, .int .u64 0, .int .u64 0, .int .u32 0, .int .u64 0], some (.pair .bool (.pair .bool (.pair (.int .u64) (.pair (.int .u64) (.pair (.int .u32) (.int .u64)))))), some [(0, 4), (1, 4), (2, 36), (3, 36), (4, 23), (5, 36)]⟩), (62, ⟨.struct [(0, 23), (1, 5), (2, 5), (3, 4), (4, 36)], 5, 16, [.int .u32 0, .int .u8 0, .int .u8 0, .bool false, .int .u64 0], some (.pair (.int .u32) (.pair (.int .u8) (.pair (.int .u8) (.pair .bool (.int .u64))))), some [(0, 23), (1, 5), (2, 5), (3, 4), (4, 36)]⟩), (128, ⟨.struct [(0, 3), (1, 36)], 2, 16, [.int .i64 0, .int .u64 0], some (.pair (.int .i64) (.int .u64)), some [(0, 3), (1, 36)]⟩), (136, ⟨.slice 36, 1, 24, [.sl .unit []], some (.slice (.int .u64)), none⟩), (144, ⟨.slice 3, 1, 24, [.sl .unit []], some (.slice (.int .i64)), none⟩), (151, ⟨.slice 128, 1, 24, [.sl .unit []], some (.slice (.pair (.int .i64) (.int .u64))), none⟩)]
theorem ht : TabOk Go.Proofs.Try.prog tab := tabOk_of (ts := [3, 4, 5, 9, 22, 23, 24, 25, 27, 30, 36, 38, 40, 42, 44, 46, 48, 54, 58, 62, 128, 136, 144, 151]) (by kernel_rfl)
theorem hm : Go.Proofs.Try.prog.follows .mixedOrders = true := by kernel_rfl
/-! brougham/broughamlaw07.Great -/
def f15_broughamlaw07_Great_in (s_0 : Int) (s_1 : Int) (s_2 : Int) (s_3 : Int) (s_4 : Int) (s_5 : List (Int × List Int)) (s_6 : List Int) : Inn := ⟨[.agg [.d (.int .u16 s_0), .d (.int .u16 s_1), .d (.int .u32 s_2), .d (.int .u32 s_3), .d (.int .u8 s_4), .d (.sl (.pair (.int .u8) (.slice (.int .u8))) s_5), .d (.sl (.int .u8) s_6)]], [], [], 0⟩
def f15_broughamlaw07_Great_out (r : Bool) : Out := ⟨.one (.c (.d (.bool r))), [], [], 0⟩
def f15_broughamlaw07_Great_L4 : Nat → Int → Int → Int → Int → Int → Int → (List (Int × List Int)) → (List Int) → Option ((Bool) ⊕ (Unit))
  | 0, _, _, _, _, _, _, _, _ => none
  | n + 1, i, s_0, s_1, s_2, s_3, s_4, s_5, s_6 =>
    if (decide ((i : Int) < ((s_5.length : Nat) : Int))) = true then
      if (0 : Int) ≤ i ∧ i < (((s_5).length : Nat) : Int) then
      if (decide ((((((s_5.getD i.toNat (0, [])).2).length : Nat) : Int) : Int) > 400)) = true then
        some (.inl true)
      else
        f15_broughamlaw07_Great_L4 n (IntKind.wrap .i64 (i + 1)) s_0 s_1 s_2 s_3 s_4 s_5 s_6
      else none
    else
      some (.inr ())
def f15_broughamlaw07_Great_L4_k (w : (Bool) ⊕ (Unit)) (o : Out) : Prop := match w with
  | .inl e => o = f15_broughamlaw07_Great_out e
  | .inr e => At Go.Proofs.Try.prog Go.Proofs.Try.f15 0 8 ⟨[], [], [], 0⟩ o
theorem f15_broughamlaw07_Great_L4_ok (n : Nat) : ∀ (i : Int) (s_0 : Int) (s_1 : Int) (s_2 : Int) (s_3 : Int) (s_4 : Int) (s_5 : List (Int × List Int)) (s_6 : List Int) (w : (Bool) ⊕ (Unit)) (h : f15_broughamlaw07_Great_L4 n i s_0 s_1 s_2 s_3 s_4 s_5 s_6 = some w) (o : Out) (hk : f15_broughamlaw07_Great_L4_k w o), At Go.Proofs.Try.prog Go.Proofs.Try.f15 0 4 ⟨[(1, .one (.c (.ptr 0 0))), (3, .one (.c (.d (.int .i64 i))))], [], [(0, [.d (.int .u16 s_0), .d (.int .u16 s_1), .d (.int .u32 s_2), .d (.int .u32 s_3), .d (.int .u8 s_4), .d (.sl (.pair (.int .u8) (.slice (.int .u8))) s_5), .d (.sl (.int .u8) s_6)])], 1⟩ o := by
  induction n with
  | zero => intro i s_0 s_1 s_2 s_3 s_4 s_5 s_6 w h; rw [f15_broughamlaw07_Great_L4] at h; cases h
  | succ n ih =>
    intro i s_0 s_1 s_2 s_3 s_4 s_5 s_6 w h o hk
    rw [f15_broughamlaw07_Great_L4] at h
    rcases iteS h with ⟨b8_e0, h⟩ | ⟨b8_e0, h⟩
    · refine At.step hm ht ⟨[], [true], [], [1, 3], [0]⟩ 6 ⟨[(1, .one (.c (.ptr 0 0))), (3, .one (.c (.d (.int .i64 i))))], [], [(0, [.d (.int .u16 s_0), .d (.int .u16 s_1), .d (.int .u32 s_2), .d (.int .u32 s_3), .d (.int .u8 s_4), .d (.sl (.pair (.int .u8) (.slice (.int .u8))) s_5), .d (.sl (.int .u8) s_6)])], 1⟩ [(decide ((i : Int) < ((s_5.length : Nat) : Int))) = true] (by kernel_rfl) ⟨b8_e0, trivial⟩ ?_
      obtain ⟨g9_0, h⟩ := ifS h
      rcases iteS h with ⟨b9_e0, h⟩ | ⟨b9_e0, h⟩
      · refine At.step hm ht ⟨[], [true], [], [], []⟩ 7 ⟨[], [], [], 0⟩ [(0 : Int) ≤ i ∧ i < (((s_5).length : Nat) : Int), (decide ((((((s_5.getD i.toNat (0, [])).2).length : Nat) : Int) : Int) > 400)) = true] (by kernel_rfl) ⟨g9_0, b9_e0, trivial⟩ ?_
        have h := Option.some.inj h
        subst h
        have hk : o = f15_broughamlaw07_Great_out true := hk
        subst hk
        exact At.fin hm ht ⟨[], [], [], [2], []⟩ [] (by kernel_rfl) trivial
      · refine At.step hm ht ⟨[], [false], [], [1, 3], [0]⟩ 5 ⟨[(1, .one (.c (.ptr 0 0))), (3, .one (.c (.d (.int .i64 i))))], [], [(0, [.d (.int .u16 s_0), .d (.int .u16 s_1), .d (.int .u32 s_2), .d (.int .u32 s_3), .d (.int .u8 s_4), .d (.sl (.pair (.int .u8) (.slice (.int .u8))) s_5), .d (.sl (.int .u8) s_6)])], 1⟩ [(0 : Int) ≤ i ∧ i < (((s_5).length : Nat) : Int), (decide ((((((s_5.getD i.toNat (0, [])).2).length : Nat) : Int) : Int) > 400)) = false] (by kernel_rfl) ⟨g9_0, b9_e0, trivial⟩ ?_
        refine At.step hm ht ⟨[], [], [], [1, 3], [0]⟩ 4 ⟨[(1, .one (.c (.ptr 0 0))), (3, .one (.c (.d (.int .i64 (IntKind.wrap .i64 (i + 1))))))], [], [(0, [.d (.int .u16 s_0), .d (.int .u16 s_1), .d (.int .u32 s_2), .d (.int .u32 s_3), .d (.int .u8 s_4), .d (.sl (.pair (.int .u8) (.slice (.int .u8))) s_5), .d (.sl (.int .u8) s_6)])], 1⟩ [] (by kernel_rfl) trivial ?_
        exact ih (IntKind.wrap .i64 (i + 1)) s_0 s_1 s_2 s_3 s_4 s_5 s_6 w h o hk
    · refine At.step hm ht ⟨[], [false], [], [], []⟩ 8 ⟨[], [], [], 0⟩ [(decide ((i : Int) < ((s_5.length : Nat) : Int))) = false] (by kernel_rfl) ⟨b8_e0, trivial⟩ ?_
      have h := Option.some.inj h
      subst h
      exact hk
def f15_broughamlaw07_Great (n : Nat) (s_0 : Int) (s_1 : Int) (s_2 : Int) (s_3 : Int) (s_4 : Int) (s_5 : List (Int × List Int)) (s_6 : List Int) : Option (Bool) :=
  if (decide ((((s_5.length : Nat) : Int) : Int) > 120)) = true then
    some true
  else
    if (decide ((((s_6.length : Nat) : Int) : Int) > 2000)) = true then
      some true
    else
      (f15_broughamlaw07_Great_L4 n 0 s_0 s_1 s_2 s_3 s_4 s_5 s_6).bind fun w12 =>
      match w12 with
      | .inl e13 =>
        some e13
      | .inr e14 =>
        some false
theorem f15_broughamlaw07_Great_ok (n : Nat) (s_0 : Int) (s_1 : Int) (s_2 : Int) (s_3 : Int) (s_4 : Int) (s_5 : List (Int × List Int)) (s_6 : List Int) (r : Bool) (h : f15_broughamlaw07_Great n s_0 s_1 s_2 s_3 s_4 s_5 s_6 = some r) : FnOK Go.Proofs.Try.prog 15 (f15_broughamlaw07_Great_in s_0 s_1 s_2 s_3 s_4 s_5 s_6) (f15_broughamlaw07_Great_out r) := by
  unfold f15_broughamlaw07_Great at h
  refine At.fn (r := 0) Go.Proofs.Try.func15 rfl (by kernel_rfl) rfl rfl (by kernel_rfl) ?_
  show At Go.Proofs.Try.prog Go.Proofs.Try.f15 0 0 ⟨[(0, .one (.agg [.d (.int .u16 s_0), .d (.int .u16 s_1), .d (.int .u32 s_2), .d (.int .u32 s_3), .d (.int .u8 s_4), .d (.sl (.pair (.int .u8) (.slice (.int .u8))) s_5), .d (.sl (.int .u8) s_6)]))], [], [], 0⟩ _
  refine At.step hm ht ⟨[], [], [], [1], [0]⟩ 1 ⟨[(1, .one (.c (.ptr 0 0)))], [], [(0, [.d (.int .u16 s_0), .d (.int .u16 s_1), .d (.int .u32 s_2), .d (.int .u32 s_3), .d (.int .u8 s_4), .d (.sl (.pair (.int .u8) (.slice (.int .u8))) s_5), .d (.sl (.int .u8) s_6)])], 1⟩ [] (by kernel_rfl) trivial ?_
  rcases iteS h with ⟨b4_4, h⟩ | ⟨b4_4, h⟩
  · refine At.step hm ht ⟨[(4, .b true)], [true], [], [], []⟩ 2 ⟨[], [], [], 0⟩ [(decide ((((s_5.length : Nat) : Int) : Int) > 120)) = true, true = true] (by kernel_rfl) ⟨b4_4, rfl, trivial⟩ ?_
    have h := Option.some.inj h
    subst h
    exact At.fin hm ht ⟨[], [], [], [2], []⟩ [] (by kernel_rfl) trivial
  · rcases iteS h with ⟨b4_e0, h⟩ | ⟨b4_e0, h⟩
    · refine At.step hm ht ⟨[(4, .b false)], [true], [], [], []⟩ 2 ⟨[], [], [], 0⟩ [(decide ((((s_5.length : Nat) : Int) : Int) > 120)) = false, (decide ((((s_6.length : Nat) : Int) : Int) > 2000)) = true] (by kernel_rfl) ⟨b4_4, b4_e0, trivial⟩ ?_
      have h := Option.some.inj h
      subst h
      exact At.fin hm ht ⟨[], [], [], [2], []⟩ [] (by kernel_rfl) trivial
    · refine At.step hm ht ⟨[(4, .b false)], [false], [], [1], [0]⟩ 3 ⟨[(1, .one (.c (.ptr 0 0)))], [], [(0, [.d (.int .u16 s_0), .d (.int .u16 s_1), .d (.int .u32 s_2), .d (.int .u32 s_3), .d (.int .u8 s_4), .d (.sl (.pair (.int .u8) (.slice (.int .u8))) s_5), .d (.sl (.int .u8) s_6)])], 1⟩ [(decide ((((s_5.length : Nat) : Int) : Int) > 120)) = false, (decide ((((s_6.length : Nat) : Int) : Int) > 2000)) = false] (by kernel_rfl) ⟨b4_4, b4_e0, trivial⟩ ?_
      refine At.step hm ht ⟨[], [], [], [1, 3], [0]⟩ 4 ⟨[(1, .one (.c (.ptr 0 0))), (3, .one (.c (.d (.int .i64 0))))], [], [(0, [.d (.int .u16 s_0), .d (.int .u16 s_1), .d (.int .u32 s_2), .d (.int .u32 s_3), .d (.int .u8 s_4), .d (.sl (.pair (.int .u8) (.slice (.int .u8))) s_5), .d (.sl (.int .u8) s_6)])], 1⟩ [] (by kernel_rfl) trivial ?_
      obtain ⟨w12, cw12, h⟩ := bindS h
      refine f15_broughamlaw07_Great_L4_ok n 0 s_0 s_1 s_2 s_3 s_4 s_5 s_6 w12 cw12 _ ?_
      rcases w12 with e13 | e14
      · have h := Option.some.inj h
        subst h
        rfl
      · show At Go.Proofs.Try.prog Go.Proofs.Try.f15 0 8 ⟨[], [], [], 0⟩ _
        have h := Option.some.inj h
        subst h
        exact At.fin hm ht ⟨[], [], [], [2], []⟩ [] (by kernel_rfl) trivial
/-! brougham/opt.One -/
def f16_opt_One_in (s_0 : Int) (s_1 : Int) (s_2 : Int) (s_3 : Int) (s_4 : Int) (s_5 : List (Int × List Int)) (s_6 : List Int) (kind : Int) : Inn := ⟨[.agg [.d (.int .u16 s_0), .d (.int .u16 s_1), .d (.int .u32 s_2), .d (.int .u32 s_3), .d (.int .u8 s_4), .d (.sl (.pair (.int .u8) (.slice (.int .u8))) s_5), .d (.sl (.int .u8) s_6)], .c (.d (.int .u8 kind))], [], [], 0⟩
def f16_opt_One_out (r : Bool × Int × List Int) : Out := ⟨.tup [.agg [.d (.int .u8 r.2.1), .d (.sl (.int .u8) r.2.2)], .c (.d (.bool r.1))], [], [(0, [.d (.int .u8 r.2.1), .d (.sl (.int .u8) r.2.2)])], 1⟩
def f16_opt_One_L4 : Nat → Int → Int → (List (Int × List Int)) → Int → Int → Int → Int → (List Int) → Option (Int × Int × Int × List Int)
  | 0, _, _, _, _, _, _, _, _ => none
  | n + 1, kind, n_, t11, t12, t13, t4_0, out_0, out_1 =>
    if (decide ((t13 : Int) < t12)) = true then
      if (0 : Int) ≤ t13 ∧ t13 < (((t11).length : Nat) : Int) then
      if ((((t11.getD t13.toNat (0, [])).1) : Int) == kind) = true then
        f16_opt_One_L4 n kind (IntKind.wrap .i64 (n_ + 1)) t11 t12 (IntKind.wrap .i64 (t13 + 1)) t4_0 ((t11.getD t13.toNat (0, [])).1) ((t11.getD t13.toNat (0, [])).2)
      else
        f16_opt_One_L4 n kind n_ t11 t12 (IntKind.wrap .i64 (t13 + 1)) t4_0 out_0 out_1
      else none
    else
      some ((n_, t4_0, out_0, out_1))
def f16_opt_One_L4_k (e : Int × Int × Int × List Int) (o : Out) : Prop := At Go.Proofs.Try.prog Go.Proofs.Try.f16 0 10 ⟨[(4, .one (.c (.ptr 0 0))), (6, .one (.c (.ptr 1 0))), (7, .one (.c (.d (.int .i64 e.1))))], [], [(0, [.d (.int .u8 e.2.1), .d (.sl .unit [])]), (1, [.d (.int .u8 e.2.2.1), .d (.sl (.int .u8) e.2.2.2)])], 2⟩ o
theorem f16_opt_One_L4_ok (n : Nat) : ∀ (kind : Int) (n_ : Int) (t11 : List (Int × List Int)) (t12 : Int) (t13 : Int) (t4_0 : Int) (out_0 : Int) (out_1 : List Int) (w : Int × Int × Int × List Int) (h : f16_opt_One_L4 n kind n_ t11 t12 t13 t4_0 out_0 out_1 = some w) (o : Out) (hk : f16_opt_One_L4_k w o), At Go.Proofs.Try.prog Go.Proofs.Try.f16 0 4 ⟨[(1, .one (.c (.d (.int .u8 kind)))), (4, .one (.c (.ptr 0 0))), (6, .one (.c (.ptr 1 0))), (7, .one (.c (.d (.int .i64 n_)))), (11, .one (.c (.d (.sl (.pair (.int .u8) (.slice (.int .u8))) t11)))), (12, .one (.c (.d (.int .i64 t12)))), (13, .one (.c (.d (.int .i64 t13))))], [], [(0, [.d (.int .u8 t4_0), .d (.sl .unit [])]), (1, [.d (.int .u8 out_0), .d (.sl (.int .u8) out_1)])], 2⟩ o := by
  induction n with
  | zero => intro kind n_ t11 t12 t13 t4_0 out_0 out_1 w h; rw [f16_opt_One_L4] at h; cases h
  | succ n ih =>
    intro kind n_ t11 t12 t13 t4_0 out_0 out_1 w h o hk
    rw [f16_opt_One_L4] at h
    rcases iteS h with ⟨b48_e0, h⟩ | ⟨b48_e0, h⟩
    · refine At.step hm ht ⟨[], [true], [], [1, 4, 6, 7, 11, 12, 13], [0, 1]⟩ 5 ⟨[(1, .one (.c (.d (.int .u8 kind)))), (4, .one (.c (.ptr 0 0))), (6, .one (.c (.ptr 1 0))), (7, .one (.c (.d (.int .i64 n_)))), (11, .one (.c (.d (.sl (.pair (.int .u8) (.slice (.int .u8))) t11)))), (12, .one (.c (.d (.int .i64 t12)))), (13, .one (.c (.d (.int .i64 t13))))], [], [(0, [.d (.int .u8 t4_0), .d (.sl .unit [])]), (1, [.d (.int .u8 out_0), .d (.sl (.int .u8) out_1)])], 2⟩ [(decide ((t13 : Int) < t12)) = true] (by kernel_rfl) ⟨b48_e0, trivial⟩ ?_
      obtain ⟨g49_0, h⟩ := ifS h
      refine At.step hm ht ⟨[], [], [], [1, 4, 6, 7, 9, 11, 12, 13], [0, 1, 4]⟩ 6 ⟨[(1, .one (.c (.d (.int .u8 kind)))), (4, .one (.c (.ptr 0 0))), (6, .one (.c (.ptr 1 0))), (7, .one (.c (.d (.int .i64 n_)))), (9, .one (.c (.ptr 2 0))), (11, .one (.c (.d (.sl (.pair (.int .u8) (.slice (.int .u8))) t11)))), (12, .one (.c (.d (.int .i64 t12)))), (13, .one (.c (.d (.int .i64 t13))))], [], [(0, [.d (.int .u8 t4_0), .d (.sl .unit [])]), (1, [.d (.int .u8 out_0), .d (.sl (.int .u8) out_1)]), (2, [.d (.int .u8 ((t11.getD t13.toNat (0, [])).1)), .d (.sl (.int .u8) ((t11.getD t13.toNat (0, [])).2))])], 3⟩ [(0 : Int) ≤ t13 ∧ t13 < (((t11).length : Nat) : Int), 0 + 2 ≤ 2] (by kernel_rfl) ⟨g49_0, (by decide), trivial⟩ ?_
      rcases iteS h with ⟨b50_e0, h⟩ | ⟨b50_e0, h⟩
      · refine At.step hm ht ⟨[], [true], [], [1, 4, 6, 7, 9, 11, 12, 13], [0, 1, 2]⟩ 7 ⟨[(1, .one (.c (.d (.int .u8 kind)))), (4, .one (.c (.ptr 0 0))), (6, .one (.c (.ptr 1 0))), (7, .one (.c (.d (.int .i64 n_)))), (9, .one (.c (.ptr 2 0))), (11, .one (.c (.d (.sl (.pair (.int .u8) (.slice (.int .u8))) t11)))), (12, .one (.c (.d (.int .i64 t12)))), (13, .one (.c (.d (.int .i64 t13))))], [], [(0, [.d (.int .u8 t4_0), .d (.sl .unit [])]), (1, [.d (.int .u8 out_0), .d (.sl (.int .u8) out_1)]), (2, [.d (.int .u8 ((t11.getD t13.toNat (0, [])).1)), .d (.sl (.int .u8) ((t11.getD t13.toNat (0, [])).2))])], 3⟩ [((((t11.getD t13.toNat (0, [])).1) : Int) == kind) = true] (by kernel_rfl) ⟨b50_e0, trivial⟩ ?_
        refine At.step hm ht ⟨[], [], [], [1, 4, 6, 7, 11, 12, 13], [0, 1]⟩ 8 ⟨[(1, .one (.c (.d (.int .u8 kind)))), (4, .one (.c (.ptr 0 0))), (6, .one (.c (.ptr 1 0))), (7, .one (.c (.d (.int .i64 n_)))), (11, .one (.c (.d (.sl (.pair (.int .u8) (.slice (.int .u8))) t11)))), (12, .one (.c (.d (.int .i64 t12)))), (13, .one (.c (.d (.int .i64 t13))))], [], [(0, [.d (.int .u8 t4_0), .d (.sl .unit [])]), (1, [.d (.int .u8 ((t11.getD t13.toNat (0, [])).1)), .d (.sl (.int .u8) ((t11.getD t13.toNat (0, [])).2))])], 2⟩ [0 + 2 ≤ 2] (by kernel_rfl) ⟨(by decide), trivial⟩ ?_
        refine At.step hm ht ⟨[], [], [], [1, 4, 6, 7, 11, 12, 13], [0, 1]⟩ 9 ⟨[(1, .one (.c (.d (.int .u8 kind)))), (4, .one (.c (.ptr 0 0))), (6, .one (.c (.ptr 1 0))), (7, .one (.c (.d (.int .i64 (IntKind.wrap .i64 (n_ + 1)))))), (11, .one (.c (.d (.sl (.pair (.int .u8) (.slice (.int .u8))) t11)))), (12, .one (.c (.d (.int .i64 t12)))), (13, .one (.c (.d (.int .i64 t13))))], [], [(0, [.d (.int .u8 t4_0), .d (.sl .unit [])]), (1, [.d (.int .u8 ((t11.getD t13.toNat (0, [])).1)), .d (.sl (.int .u8) ((t11.getD t13.toNat (0, [])).2))])], 2⟩ [] (by kernel_rfl) trivial ?_
        refine At.step hm ht ⟨[], [], [], [1, 4, 6, 7, 11, 12, 13], [0, 1]⟩ 4 ⟨[(1, .one (.c (.d (.int .u8 kind)))), (4, .one (.c (.ptr 0 0))), (6, .one (.c (.ptr 1 0))), (7, .one (.c (.d (.int .i64 (IntKind.wrap .i64 (n_ + 1)))))), (11, .one (.c (.d (.sl (.pair (.int .u8) (.slice (.int .u8))) t11)))), (12, .one (.c (.d (.int .i64 t12)))), (13, .one (.c (.d (.int .i64 (IntKind.wrap .i64 (t13 + 1))))))], [], [(0, [.d (.int .u8 t4_0), .d (.sl .unit [])]), (1, [.d (.int .u8 ((t11.getD t13.toNat (0, [])).1)), .d (.sl (.int .u8) ((t11.getD t13.toNat (0, [])).2))])], 2⟩ [] (by kernel_rfl) trivial ?_
        exact ih kind (IntKind.wrap .i64 (n_ + 1)) t11 t12 (IntKind.wrap .i64 (t13 + 1)) t4_0 ((t11.getD t13.toNat (0, [])).1) ((t11.getD t13.toNat (0, [])).2) w h o hk
      · refine At.step hm ht ⟨[], [false], [], [1, 4, 6, 7, 11, 12, 13], [0, 1]⟩ 9 ⟨[(1, .one (.c (.d (.int .u8 kind)))), (4, .one (.c (.ptr 0 0))), (6, .one (.c (.ptr 1 0))), (7, .one (.c (.d (.int .i64 n_)))), (11, .one (.c (.d (.sl (.pair (.int .u8) (.slice (.int .u8))) t11)))), (12, .one (.c (.d (.int .i64 t12)))), (13, .one (.c (.d (.int .i64 t13))))], [], [(0, [.d (.int .u8 t4_0), .d (.sl .unit [])]), (1, [.d (.int .u8 out_0), .d (.sl (.int .u8) out_1)])], 2⟩ [((((t11.getD t13.toNat (0, [])).1) : Int) == kind) = false] (by kernel_rfl) ⟨b50_e0, trivial⟩ ?_
        refine At.step hm ht ⟨[], [], [], [1, 4, 6, 7, 11, 12, 13], [0, 1]⟩ 4 ⟨[(1, .one (.c (.d (.int .u8 kind)))), (4, .one (.c (.ptr 0 0))), (6, .one (.c (.ptr 1 0))), (7, .one (.c (.d (.int .i64 n_)))), (11, .one (.c (.d (.sl (.pair (.int .u8) (.slice (.int .u8))) t11)))), (12, .one (.c (.d (.int .i64 t12)))), (13, .one (.c (.d (.int .i64 (IntKind.wrap .i64 (t13 + 1))))))], [], [(0, [.d (.int .u8 t4_0), .d (.sl .unit [])]), (1, [.d (.int .u8 out_0), .d (.sl (.int .u8) out_1)])], 2⟩ [] (by kernel_rfl) trivial ?_
        exact ih kind n_ t11 t12 (IntKind.wrap .i64 (t13 + 1)) t4_0 out_0 out_1 w h o hk
    · refine At.step hm ht ⟨[], [false], [], [4, 6, 7], [0, 1]⟩ 10 ⟨[(4, .one (.c (.ptr 0 0))), (6, .one (.c (.ptr 1 0))), (7, .one (.c (.d (.int .i64 n_))))], [], [(0, [.d (.int .u8 t4_0), .d (.sl .unit [])]), (1, [.d (.int .u8 out_0), .d (.sl (.int .u8) out_1)])], 2⟩ [(decide ((t13 : Int) < t12)) = false] (by kernel_rfl) ⟨b48_e0, trivial⟩ ?_
      have h := Option.some.inj h
      subst h
      exact hk
def f16_opt_One (n : Nat) (s_0 : Int) (s_1 : Int) (s_2 : Int) (s_3 : Int) (s_4 : Int) (s_5 : List (Int × List Int)) (s_6 : List Int) (kind : Int) : Option (Bool × Int × List Int) :=
  (f16_opt_One_L4 n kind 0 s_5 ((s_5.length : Nat) : Int) 0 0 0 []).bind fun w55 =>
  if ((w55.1 : Int) != 1) = true then
    some (false, 0, [])
  else
    some (true, w55.2.2.1, w55.2.2.2)
theorem f16_opt_One_ok (n : Nat) (s_0 : Int) (s_1 : Int) (s_2 : Int) (s_3 : Int) (s_4 : Int) (s_5 : List (Int × List Int)) (s_6 : List Int) (kind : Int) (r : Bool × Int × List Int) (h : f16_opt_One n s_0 s_1 s_2 s_3 s_4 s_5 s_6 kind = some r) : FnOK Go.Proofs.Try.prog 16 (f16_opt_One_in s_0 s_1 s_2 s_3 s_4 s_5 s_6 kind) (f16_opt_One_out r) := by
  unfold f16_opt_One at h
  refine At.fn (r := 0) Go.Proofs.Try.func16 rfl (by kernel_rfl) rfl rfl (by kernel_rfl) ?_
  show At Go.Proofs.Try.prog Go.Proofs.Try.f16 0 0 ⟨[(0, .one (.agg [.d (.int .u16 s_0), .d (.int .u16 s_1), .d (.int .u32 s_2), .d (.int .u32 s_3), .d (.int .u8 s_4), .d (.sl (.pair (.int .u8) (.slice (.int .u8))) s_5), .d (.sl (.int .u8) s_6)])), (1, .one (.c (.d (.int .u8 kind))))], [], [], 0⟩ _
  refine At.step hm ht ⟨[], [], [], [1, 2, 4], [0, 1]⟩ 1 ⟨[(1, .one (.c (.d (.int .u8 kind)))), (2, .one (.c (.ptr 0 0))), (4, .one (.c (.ptr 1 0)))], [], [(0, [.d (.int .u16 s_0), .d (.int .u16 s_1), .d (.int .u32 s_2), .d (.int .u32 s_3), .d (.int .u8 s_4), .d (.sl (.pair (.int .u8) (.slice (.int .u8))) s_5), .d (.sl (.int .u8) s_6)]), (1, [.d (.int .u8 0), .d (.sl .unit [])])], 2⟩ [] (by kernel_rfl) trivial ?_
  refine At.step hm ht ⟨[], [], [], [1, 2, 4, 6], [0, 1, 2]⟩ 2 ⟨[(1, .one (.c (.d (.int .u8 kind)))), (2, .one (.c (.ptr 0 0))), (4, .one (.c (.ptr 1 0))), (6, .one (.c (.ptr 2 0)))], [], [(0, [.d (.int .u16 s_0), .d (.int .u16 s_1), .d (.int .u32 s_2), .d (.int .u32 s_3), .d (.int .u8 s_4), .d (.sl (.pair (.int .u8) (.slice (.int .u8))) s_5), .d (.sl (.int .u8) s_6)]), (1, [.d (.int .u8 0), .d (.sl .unit [])]), (2, [.d (.int .u8 0), .d (.sl .unit [])])], 3⟩ [] (by kernel_rfl) trivial ?_
  refine At.step hm ht ⟨[], [], [], [1, 2, 4, 6, 7], [0, 1, 2]⟩ 3 ⟨[(1, .one (.c (.d (.int .u8 kind)))), (2, .one (.c (.ptr 0 0))), (4, .one (.c (.ptr 1 0))), (6, .one (.c (.ptr 2 0))), (7, .one (.c (.d (.int .i64 0))))], [], [(0, [.d (.int .u16 s_0), .d (.int .u16 s_1), .d (.int .u32 s_2), .d (.int .u32 s_3), .d (.int .u8 s_4), .d (.sl (.pair (.int .u8) (.slice (.int .u8))) s_5), .d (.sl (.int .u8) s_6)]), (1, [.d (.int .u8 0), .d (.sl .unit [])]), (2, [.d (.int .u8 0), .d (.sl .unit [])])], 3⟩ [] (by kernel_rfl) trivial ?_
  refine At.step hm ht ⟨[], [], [.nil true 2 1 (.int .u8) none], [1, 4, 6, 7, 11, 12, 13], [1, 2]⟩ 4 ⟨[(1, .one (.c (.d (.int .u8 kind)))), (4, .one (.c (.ptr 0 0))), (6, .one (.c (.ptr 1 0))), (7, .one (.c (.d (.int .i64 0)))), (11, .one (.c (.d (.sl (.pair (.int .u8) (.slice (.int .u8))) s_5)))), (12, .one (.c (.d (.int .i64 ((s_5.length : Nat) : Int))))), (13, .one (.c (.d (.int .i64 0))))], [], [(0, [.d (.int .u8 0), .d (.sl .unit [])]), (1, [.d (.int .u8 0), .d (.sl (.int .u8) [])])], 2⟩ [] (by kernel_rfl) trivial ?_
  obtain ⟨w55, cw55, h⟩ := bindS h
  refine f16_opt_One_L4_ok n kind 0 s_5 ((s_5.length : Nat) : Int) 0 0 0 [] w55 cw55 _ ?_
  show At Go.Proofs.Try.prog Go.Proofs.Try.f16 0 10 ⟨[(4, .one (.c (.ptr 0 0))), (6, .one (.c (.ptr 1 0))), (7, .one (.c (.d (.int .i64 w55.1))))], [], [(0, [.d (.int .u8 w55.2.1), .d (.sl .unit [])]), (1, [.d (.int .u8 w55.2.2.1), .d (.sl (.int .u8) w55.2.2.2)])], 2⟩ _
  rcases iteS h with ⟨b57_e0, h⟩ | ⟨b57_e0, h⟩
  · refine At.step hm ht ⟨[], [true], [], [4], [0]⟩ 11 ⟨[(4, .one (.c (.ptr 0 0)))], [], [(0, [.d (.int .u8 w55.2.1), .d (.sl .unit [])])], 1⟩ [((w55.1 : Int) != 1) = true] (by kernel_rfl) ⟨b57_e0, trivial⟩ ?_
    have h := Option.some.inj h
    subst h
    exact At.fin hm ht ⟨[], [], [.nil true 0 1 (.int .u8) none], [4, 5], [0]⟩ [0 + 2 ≤ 2] (by kernel_rfl) ⟨(by decide), trivial⟩
  · refine At.step hm ht ⟨[], [false], [], [4, 6], [0, 1]⟩ 12 ⟨[(4, .one (.c (.ptr 0 0))), (6, .one (.c (.ptr 1 0)))], [], [(0, [.d (.int .u8 w55.2.1), .d (.sl .unit [])]), (1, [.d (.int .u8 w55.2.2.1), .d (.sl (.int .u8) w55.2.2.2)])], 2⟩ [((w55.1 : Int) != 1) = false] (by kernel_rfl) ⟨b57_e0, trivial⟩ ?_
    have h := Option.some.inj h
    subst h
    exact At.fin hm ht ⟨[], [], [], [4, 5], [0]⟩ [0 + 2 ≤ 2] (by kernel_rfl) ⟨(by decide), trivial⟩
/-! brougham/broughamref08.One -/
def f17_broughamref08_One_in (s_0 : Int) (s_1 : Int) (s_2 : Int) (s_3 : Int) (s_4 : Int) (s_5 : List (Int × List Int)) (s_6 : List Int) (kind : Int) : Inn := ⟨[.agg [.d (.int .u16 s_0), .d (.int .u16 s_1), .d (.int .u32 s_2), .d (.int .u32 s_3), .d (.int .u8 s_4), .d (.sl (.pair (.int .u8) (.slice (.int .u8))) s_5), .d (.sl (.int .u8) s_6)], .c (.d (.int .u8 kind))], [], [], 0⟩
def f17_broughamref08_One_out (r : Bool × Int × List Int) : Out := ⟨.tup [.agg [.d (.int .u8 r.2.1), .d (.sl (.int .u8) r.2.2)], .c (.d (.bool r.1))], [], [(0, [.d (.int .u8 r.2.1), .d (.sl (.int .u8) r.2.2)])], 1⟩
def f17_broughamref08_One_L3 : Nat → Int → Int → Int → Int → Int → Int → Int → Int → (List (Int × List Int)) → (List Int) → Int → Option ((Bool × Int × List Int) ⊕ (Int × Int × Int × Int × Int × Int × (List (Int × List Int)) × List Int × Int))
  | 0, _, _, _, _, _, _, _, _, _, _, _ => none
  | n + 1, kind, at_, i, s_0, s_1, s_2, s_3, s_4, s_5, s_6, t4_0 =>
    if (decide ((i : Int) < ((s_5.length : Nat) : Int))) = true then
      if (0 : Int) ≤ i ∧ i < (((s_5).length : Nat) : Int) then
      if ((((s_5.getD i.toNat (0, [])).1) : Int) != kind) = true then
        f17_broughamref08_One_L3 n kind at_ (IntKind.wrap .i64 (i + 1)) s_0 s_1 s_2 s_3 s_4 s_5 s_6 t4_0
      else
        if (decide ((at_ : Int) ≥ 0)) = true then
          some (.inl (false, 0, []))
        else
          f17_broughamref08_One_L3 n kind i (IntKind.wrap .i64 (i + 1)) s_0 s_1 s_2 s_3 s_4 s_5 s_6 t4_0
      else none
    else
      some (.inr ((at_, s_0, s_1, s_2, s_3, s_4, s_5, s_6, t4_0)))
def f17_broughamref08_One_L3_k (w : (Bool × Int × List Int) ⊕ (Int × Int × Int × Int × Int × Int × (List (Int × List Int)) × List Int × Int)) (o : Out) : Prop := match w with
  | .inl e => o = f17_broughamref08_One_out e
  | .inr e => At Go.Proofs.Try.prog Go.Proofs.Try.f17 0 9 ⟨[(2, .one (.c (.ptr 0 0))), (4, .one (.c (.ptr 1 0))), (6, .one (.c (.d (.int .i64 e.1))))], [], [(0, [.d (.int .u16 e.2.1), .d (.int .u16 e.2.2.1), .d (.int .u32 e.2.2.2.1), .d (.int .u32 e.2.2.2.2.1), .d (.int .u8 e.2.2.2.2.2.1), .d (.sl (.pair (.int .u8) (.slice (.int .u8))) e.2.2.2.2.2.2.1), .d (.sl (.int .u8) e.2.2.2.2.2.2.2.1)]), (1, [.d (.int .u8 e.2.2.2.2.2.2.2.2), .d (.sl .unit [])])], 2⟩ o
theorem f17_broughamref08_One_L3_ok (n : Nat) : ∀ (kind : Int) (at_ : Int) (i : Int) (s_0 : Int) (s_1 : Int) (s_2 : Int) (s_3 : Int) (s_4 : Int) (s_5 : List (Int × List Int)) (s_6 : List Int) (t4_0 : Int) (w : (Bool × Int × List Int) ⊕ (Int × Int × Int × Int × Int × Int × (List (Int × List Int)) × List Int × Int)) (h : f17_broughamref08_One_L3 n kind at_ i s_0 s_1 s_2 s_3 s_4 s_5 s_6 t4_0 = some w) (o : Out) (hk : f17_broughamref08_One_L3_k w o), At Go.Proofs.Try.prog Go.Proofs.Try.f17 0 3 ⟨[(1, .one (.c (.d (.int .u8 kind)))), (2, .one (.c (.ptr 0 0))), (4, .one (.c (.ptr 1 0))), (6, .one (.c (.d (.int .i64 at_)))), (7, .one (.c (.d (.int .i64 i))))], [], [(0, [.d (.int .u16 s_0), .d (.int .u16 s_1), .d (.int .u32 s_2), .d (.int .u32 s_3), .d (.int .u8 s_4), .d (.sl (.pair (.int .u8) (.slice (.int .u8))) s_5), .d (.sl (.int .u8) s_6)]), (1, [.d (.int .u8 t4_0), .d (.sl .unit [])])], 2⟩ o := by
  induction n with
  | zero => intro kind at_ i s_0 s_1 s_2 s_3 s_4 s_5 s_6 t4_0 w h; rw [f17_broughamref08_One_L3] at h; cases h
  | succ n ih =>
    intro kind at_ i s_0 s_1 s_2 s_3 s_4 s_5 s_6 t4_0 w h o hk
    rw [f17_broughamref08_One_L3] at h
    rcases iteS h with ⟨b80_e0, h⟩ | ⟨b80_e0, h⟩
    · refine At.step hm ht ⟨[], [true], [], [1, 2, 4, 6, 7], [0, 1]⟩ 5 ⟨[(1, .one (.c (.d (.int .u8 kind)))), (2, .one (.c (.ptr 0 0))), (4, .one (.c (.ptr 1 0))), (6, .one (.c (.d (.int .i64 at_)))), (7, .one (.c (.d (.int .i64 i))))], [], [(0, [.d (.int .u16 s_0), .d (.int .u16 s_1), .d (.int .u32 s_2), .d (.int .u32 s_3), .d (.int .u8 s_4), .d (.sl (.pair (.int .u8) (.slice (.int .u8))) s_5), .d (.sl (.int .u8) s_6)]), (1, [.d (.int .u8 t4_0), .d (.sl .unit [])])], 2⟩ [(decide ((i : Int) < ((s_5.length : Nat) : Int))) = true] (by kernel_rfl) ⟨b80_e0, trivial⟩ ?_
      obtain ⟨g81_0, h⟩ := ifS h
      rcases iteS h with ⟨b81_e0, h⟩ | ⟨b81_e0, h⟩
      · refine At.step hm ht ⟨[], [true], [], [1, 2, 4, 6, 7], [0, 1]⟩ 4 ⟨[(1, .one (.c (.d (.int .u8 kind)))), (2, .one (.c (.ptr 0 0))), (4, .one (.c (.ptr 1 0))), (6, .one (.c (.d (.int .i64 at_)))), (7, .one (.c (.d (.int .i64 i))))], [], [(0, [.d (.int .u16 s_0), .d (.int .u16 s_1), .d (.int .u32 s_2), .d (.int .u32 s_3), .d (.int .u8 s_4), .d (.sl (.pair (.int .u8) (.slice (.int .u8))) s_5), .d (.sl (.int .u8) s_6)]), (1, [.d (.int .u8 t4_0), .d (.sl .unit [])])], 2⟩ [(0 : Int) ≤ i ∧ i < (((s_5).length : Nat) : Int), ((((s_5.getD i.toNat (0, [])).1) : Int) != kind) = true] (by kernel_rfl) ⟨g81_0, b81_e0, trivial⟩ ?_
        refine At.step hm ht ⟨[], [], [], [1, 2, 4, 6, 7], [0, 1]⟩ 3 ⟨[(1, .one (.c (.d (.int .u8 kind)))), (2, .one (.c (.ptr 0 0))), (4, .one (.c (.ptr 1 0))), (6, .one (.c (.d (.int .i64 at_)))), (7, .one (.c (.d (.int .i64 (IntKind.wrap .i64 (i + 1))))))], [], [(0, [.d (.int .u16 s_0), .d (.int .u16 s_1), .d (.int .u32 s_2), .d (.int .u32 s_3), .d (.int .u8 s_4), .d (.sl (.pair (.int .u8) (.slice (.int .u8))) s_5), .d (.sl (.int .u8) s_6)]), (1, [.d (.int .u8 t4_0), .d (.sl .unit [])])], 2⟩ [] (by kernel_rfl) trivial ?_
        exact ih kind at_ (IntKind.wrap .i64 (i + 1)) s_0 s_1 s_2 s_3 s_4 s_5 s_6 t4_0 w h o hk
      · refine At.step hm ht ⟨[], [false], [], [1, 2, 4, 6, 7], [0, 1]⟩ 6 ⟨[(1, .one (.c (.d (.int .u8 kind)))), (2, .one (.c (.ptr 0 0))), (4, .one (.c (.ptr 1 0))), (6, .one (.c (.d (.int .i64 at_)))), (7, .one (.c (.d (.int .i64 i))))], [], [(0, [.d (.int .u16 s_0), .d (.int .u16 s_1), .d (.int .u32 s_2), .d (.int .u32 s_3), .d (.int .u8 s_4), .d (.sl (.pair (.int .u8) (.slice (.int .u8))) s_5), .d (.sl (.int .u8) s_6)]), (1, [.d (.int .u8 t4_0), .d (.sl .unit [])])], 2⟩ [(0 : Int) ≤ i ∧ i < (((s_5).length : Nat) : Int), ((((s_5.getD i.toNat (0, [])).1) : Int) != kind) = false] (by kernel_rfl) ⟨g81_0, b81_e0, trivial⟩ ?_
        rcases iteS h with ⟨b83_e0, h⟩ | ⟨b83_e0, h⟩
        · refine At.step hm ht ⟨[], [true], [], [4], [1]⟩ 7 ⟨[(4, .one (.c (.ptr 0 0)))], [], [(0, [.d (.int .u8 t4_0), .d (.sl .unit [])])], 1⟩ [(decide ((at_ : Int) ≥ 0)) = true] (by kernel_rfl) ⟨b83_e0, trivial⟩ ?_
          have h := Option.some.inj h
          subst h
          have hk : o = f17_broughamref08_One_out (false, 0, []) := hk
          subst hk
          exact At.fin hm ht ⟨[], [], [.nil true 0 1 (.int .u8) none], [4, 5], [0]⟩ [0 + 2 ≤ 2] (by kernel_rfl) ⟨(by decide), trivial⟩
        · refine At.step hm ht ⟨[], [false], [], [1, 2, 4, 7], [0, 1]⟩ 8 ⟨[(1, .one (.c (.d (.int .u8 kind)))), (2, .one (.c (.ptr 0 0))), (4, .one (.c (.ptr 1 0))), (7, .one (.c (.d (.int .i64 i))))], [], [(0, [.d (.int .u16 s_0), .d (.int .u16 s_1), .d (.int .u32 s_2), .d (.int .u32 s_3), .d (.int .u8 s_4), .d (.sl (.pair (.int .u8) (.slice (.int .u8))) s_5), .d (.sl (.int .u8) s_6)]), (1, [.d (.int .u8 t4_0), .d (.sl .unit [])])], 2⟩ [(decide ((at_ : Int) ≥ 0)) = false] (by kernel_rfl) ⟨b83_e0, trivial⟩ ?_
          refine At.step hm ht ⟨[], [], [], [1, 2, 4, 6, 7], [0, 1]⟩ 4 ⟨[(1, .one (.c (.d (.int .u8 kind)))), (2, .one (.c (.ptr 0 0))), (4, .one (.c (.ptr 1 0))), (6, .one (.c (.d (.int .i64 i)))), (7, .one (.c (.d (.int .i64 i))))], [], [(0, [.d (.int .u16 s_0), .d (.int .u16 s_1), .d (.int .u32 s_2), .d (.int .u32 s_3), .d (.int .u8 s_4), .d (.sl (.pair (.int .u8) (.slice (.int .u8))) s_5), .d (.sl (.int .u8) s_6)]), (1, [.d (.int .u8 t4_0), .d (.sl .unit [])])], 2⟩ [] (by kernel_rfl) trivial ?_
          refine At.step hm ht ⟨[], [], [], [1, 2, 4, 6, 7], [0, 1]⟩ 3 ⟨[(1, .one (.c (.d (.int .u8 kind)))), (2, .one (.c (.ptr 0 0))), (4, .one (.c (.ptr 1 0))), (6, .one (.c (.d (.int .i64 i)))), (7, .one (.c (.d (.int .i64 (IntKind.wrap .i64 (i + 1))))))], [], [(0, [.d (.int .u16 s_0), .d (.int .u16 s_1), .d (.int .u32 s_2), .d (.int .u32 s_3), .d (.int .u8 s_4), .d (.sl (.pair (.int .u8) (.slice (.int .u8))) s_5), .d (.sl (.int .u8) s_6)]), (1, [.d (.int .u8 t4_0), .d (.sl .unit [])])], 2⟩ [] (by kernel_rfl) trivial ?_
          exact ih kind i (IntKind.wrap .i64 (i + 1)) s_0 s_1 s_2 s_3 s_4 s_5 s_6 t4_0 w h o hk
    · refine At.step hm ht ⟨[], [false], [], [2, 4, 6], [0, 1]⟩ 9 ⟨[(2, .one (.c (.ptr 0 0))), (4, .one (.c (.ptr 1 0))), (6, .one (.c (.d (.int .i64 at_))))], [], [(0, [.d (.int .u16 s_0), .d (.int .u16 s_1), .d (.int .u32 s_2), .d (.int .u32 s_3), .d (.int .u8 s_4), .d (.sl (.pair (.int .u8) (.slice (.int .u8))) s_5), .d (.sl (.int .u8) s_6)]), (1, [.d (.int .u8 t4_0), .d (.sl .unit [])])], 2⟩ [(decide ((i : Int) < ((s_5.length : Nat) : Int))) = false] (by kernel_rfl) ⟨b80_e0, trivial⟩ ?_
      have h := Option.some.inj h
      subst h
      exact hk
def f17_broughamref08_One (n : Nat) (s_0 : Int) (s_1 : Int) (s_2 : Int) (s_3 : Int) (s_4 : Int) (s_5 : List (Int × List Int)) (s_6 : List Int) (kind : Int) : Option (Bool × Int × List Int) :=
  (f17_broughamref08_One_L3 n kind (-1) 0 s_0 s_1 s_2 s_3 s_4 s_5 s_6 0).bind fun w87 =>
  match w87 with
  | .inl e88 =>
    some (e88.1, e88.2.1, e88.2.2)
  | .inr e89 =>
    if (decide ((e89.1 : Int) < 0)) = true then
      some (false, 0, [])
    else
      if (0 : Int) ≤ e89.1 ∧ e89.1 < (((e89.2.2.2.2.2.2.1).length : Nat) : Int) then
      some (true, (e89.2.2.2.2.2.2.1.getD e89.1.toNat (0, [])).1, (e89.2.2.2.2.2.2.1.getD e89.1.toNat (0, [])).2)
      else none
theorem f17_broughamref08_One_ok (n : Nat) (s_0 : Int) (s_1 : Int) (s_2 : Int) (s_3 : Int) (s_4 : Int) (s_5 : List (Int × List Int)) (s_6 : List Int) (kind : Int) (r : Bool × Int × List Int) (h : f17_broughamref08_One n s_0 s_1 s_2 s_3 s_4 s_5 s_6 kind = some r) : FnOK Go.Proofs.Try.prog 17 (f17_broughamref08_One_in s_0 s_1 s_2 s_3 s_4 s_5 s_6 kind) (f17_broughamref08_One_out r) := by
  unfold f17_broughamref08_One at h
  refine At.fn (r := 0) Go.Proofs.Try.func17 rfl (by kernel_rfl) rfl rfl (by kernel_rfl) ?_
  show At Go.Proofs.Try.prog Go.Proofs.Try.f17 0 0 ⟨[(0, .one (.agg [.d (.int .u16 s_0), .d (.int .u16 s_1), .d (.int .u32 s_2), .d (.int .u32 s_3), .d (.int .u8 s_4), .d (.sl (.pair (.int .u8) (.slice (.int .u8))) s_5), .d (.sl (.int .u8) s_6)])), (1, .one (.c (.d (.int .u8 kind))))], [], [], 0⟩ _
  refine At.step hm ht ⟨[], [], [], [1, 2, 4], [0, 1]⟩ 1 ⟨[(1, .one (.c (.d (.int .u8 kind)))), (2, .one (.c (.ptr 0 0))), (4, .one (.c (.ptr 1 0)))], [], [(0, [.d (.int .u16 s_0), .d (.int .u16 s_1), .d (.int .u32 s_2), .d (.int .u32 s_3), .d (.int .u8 s_4), .d (.sl (.pair (.int .u8) (.slice (.int .u8))) s_5), .d (.sl (.int .u8) s_6)]), (1, [.d (.int .u8 0), .d (.sl .unit [])])], 2⟩ [] (by kernel_rfl) trivial ?_
  refine At.step hm ht ⟨[], [], [], [1, 2, 4, 6], [0, 1]⟩ 2 ⟨[(1, .one (.c (.d (.int .u8 kind)))), (2, .one (.c (.ptr 0 0))), (4, .one (.c (.ptr 1 0))), (6, .one (.c (.d (.int .i64 (-1)))))], [], [(0, [.d (.int .u16 s_0), .d (.int .u16 s_1), .d (.int .u32 s_2), .d (.int .u32 s_3), .d (.int .u8 s_4), .d (.sl (.pair (.int .u8) (.slice (.int .u8))) s_5), .d (.sl (.int .u8) s_6)]), (1, [.d (.int .u8 0), .d (.sl .unit [])])], 2⟩ [] (by kernel_rfl) trivial ?_
  refine At.step hm ht ⟨[], [], [], [1, 2, 4, 6, 7], [0, 1]⟩ 3 ⟨[(1, .one (.c (.d (.int .u8 kind)))), (2, .one (.c (.ptr 0 0))), (4, .one (.c (.ptr 1 0))), (6, .one (.c (.d (.int .i64 (-1))))), (7, .one (.c (.d (.int .i64 0))))], [], [(0, [.d (.int .u16 s_0), .d (.int .u16 s_1), .d (.int .u32 s_2), .d (.int .u32 s_3), .d (.int .u8 s_4), .d (.sl (.pair (.int .u8) (.slice (.int .u8))) s_5), .d (.sl (.int .u8) s_6)]), (1, [.d (.int .u8 0), .d (.sl .unit [])])], 2⟩ [] (by kernel_rfl) trivial ?_
  obtain ⟨w87, cw87, h⟩ := bindS h
  refine f17_broughamref08_One_L3_ok n kind (-1) 0 s_0 s_1 s_2 s_3 s_4 s_5 s_6 0 w87 cw87 _ ?_
  rcases w87 with e88 | e89
  · have h := Option.some.inj h
    subst h
    rfl
  · show At Go.Proofs.Try.prog Go.Proofs.Try.f17 0 9 ⟨[(2, .one (.c (.ptr 0 0))), (4, .one (.c (.ptr 1 0))), (6, .one (.c (.d (.int .i64 e89.1))))], [], [(0, [.d (.int .u16 e89.2.1), .d (.int .u16 e89.2.2.1), .d (.int .u32 e89.2.2.2.1), .d (.int .u32 e89.2.2.2.2.1), .d (.int .u8 e89.2.2.2.2.2.1), .d (.sl (.pair (.int .u8) (.slice (.int .u8))) e89.2.2.2.2.2.2.1), .d (.sl (.int .u8) e89.2.2.2.2.2.2.2.1)]), (1, [.d (.int .u8 e89.2.2.2.2.2.2.2.2), .d (.sl .unit [])])], 2⟩ _
    rcases iteS h with ⟨b90_e0, h⟩ | ⟨b90_e0, h⟩
    · refine At.step hm ht ⟨[], [true], [], [4], [1]⟩ 10 ⟨[(4, .one (.c (.ptr 0 0)))], [], [(0, [.d (.int .u8 e89.2.2.2.2.2.2.2.2), .d (.sl .unit [])])], 1⟩ [(decide ((e89.1 : Int) < 0)) = true] (by kernel_rfl) ⟨b90_e0, trivial⟩ ?_
      have h := Option.some.inj h
      subst h
      exact At.fin hm ht ⟨[], [], [.nil true 0 1 (.int .u8) none], [4, 5], [0]⟩ [0 + 2 ≤ 2] (by kernel_rfl) ⟨(by decide), trivial⟩
    · refine At.step hm ht ⟨[], [false], [], [2, 4, 6], [0, 1]⟩ 11 ⟨[(2, .one (.c (.ptr 0 0))), (4, .one (.c (.ptr 1 0))), (6, .one (.c (.d (.int .i64 e89.1))))], [], [(0, [.d (.int .u16 e89.2.1), .d (.int .u16 e89.2.2.1), .d (.int .u32 e89.2.2.2.1), .d (.int .u32 e89.2.2.2.2.1), .d (.int .u8 e89.2.2.2.2.2.1), .d (.sl (.pair (.int .u8) (.slice (.int .u8))) e89.2.2.2.2.2.2.1), .d (.sl (.int .u8) e89.2.2.2.2.2.2.2.1)]), (1, [.d (.int .u8 e89.2.2.2.2.2.2.2.2), .d (.sl .unit [])])], 2⟩ [(decide ((e89.1 : Int) < 0)) = false] (by kernel_rfl) ⟨b90_e0, trivial⟩ ?_
      obtain ⟨g92_0, h⟩ := ifS h
      have h := Option.some.inj h
      subst h
      exact At.fin hm ht ⟨[], [], [], [4, 5], [1]⟩ [(0 : Int) ≤ e89.1 ∧ e89.1 < (((e89.2.2.2.2.2.2.1).length : Nat) : Int), 0 + 2 ≤ 2] (by kernel_rfl) ⟨g92_0, (by decide), trivial⟩
/-! brougham/broughamref07.SameOption -/
def f18_broughamref07_SameOption_in (a_0 : Int) (a_1 : List Int) (b_0 : Int) (b_1 : List Int) : Inn := ⟨[.agg [.d (.int .u8 a_0), .d (.sl (.int .u8) a_1)], .agg [.d (.int .u8 b_0), .d (.sl (.int .u8) b_1)]], [], [], 0⟩
def f18_broughamref07_SameOption_out (r : Bool) : Out := ⟨.one (.c (.d (.bool r))), [], [], 0⟩
def f18_broughamref07_SameOption (a_0 : Int) (a_1 : List Int) (b_0 : Int) (b_1 : List Int) : Option (Bool) :=
  if ((a_0 : Int) == b_0) = true then
    some ((strOfNums a_1).toList == (strOfNums b_1).toList)
  else
    some false
theorem f18_broughamref07_SameOption_ok (a_0 : Int) (a_1 : List Int) (b_0 : Int) (b_1 : List Int) (r : Bool) (h : f18_broughamref07_SameOption a_0 a_1 b_0 b_1 = some r) : FnOK Go.Proofs.Try.prog 18 (f18_broughamref07_SameOption_in a_0 a_1 b_0 b_1) (f18_broughamref07_SameOption_out r) := by
  unfold f18_broughamref07_SameOption at h
  refine At.fn (r := 0) Go.Proofs.Try.func18 rfl (by kernel_rfl) rfl rfl (by kernel_rfl) ?_
  show At Go.Proofs.Try.prog Go.Proofs.Try.f18 0 0 ⟨[(0, .one (.agg [.d (.int .u8 a_0), .d (.sl (.int .u8) a_1)])), (1, .one (.agg [.d (.int .u8 b_0), .d (.sl (.int .u8) b_1)]))], [], [], 0⟩ _
  refine At.step hm ht ⟨[], [], [], [2, 3], [0, 1]⟩ 1 ⟨[(2, .one (.c (.ptr 0 0))), (3, .one (.c (.ptr 1 0)))], [], [(0, [.d (.int .u8 a_0), .d (.sl (.int .u8) a_1)]), (1, [.d (.int .u8 b_0), .d (.sl (.int .u8) b_1)])], 2⟩ [] (by kernel_rfl) trivial ?_
  rcases iteS h with ⟨b95_5, h⟩ | ⟨b95_5, h⟩
  · have h := Option.some.inj h
    subst h
    exact At.fin hm ht ⟨[(5, .b true)], [], [], [4], []⟩ [((a_0 : Int) == b_0) = true] (by kernel_rfl) ⟨b95_5, trivial⟩
  · have h := Option.some.inj h
    subst h
    exact At.fin hm ht ⟨[(5, .b false)], [], [], [4], []⟩ [((a_0 : Int) == b_0) = false] (by kernel_rfl) ⟨b95_5, trivial⟩
/-! brougham/pack.Q -/
def f74_pack_Q_in (n_ : Int) : Inn := ⟨[.c (.d (.int .u64 n_))], [], [], 0⟩
def f74_pack_Q_out (r : Int × Int) : Out := ⟨.one (.agg [.d (.int .i64 r.1), .d (.int .u64 r.2)]), [], [(0, [.d (.int .i64 r.1), .d (.int .u64 r.2)])], 1⟩
def f74_pack_Q (n_ : Int) : Option (Int × Int) :=
  some (8, n_)
theorem f74_pack_Q_ok (n_ : Int) (r : Int × Int) (h : f74_pack_Q n_ = some r) : FnOK Go.Proofs.Try.prog 74 (f74_pack_Q_in n_) (f74_pack_Q_out r) := by
  unfold f74_pack_Q at h
  refine At.fn (r := 0) Go.Proofs.Try.func74 rfl (by kernel_rfl) rfl rfl (by kernel_rfl) ?_
  show At Go.Proofs.Try.prog Go.Proofs.Try.f74 0 0 ⟨[(0, .one (.c (.d (.int .u64 n_))))], [], [], 0⟩ _
  refine At.step hm ht ⟨[], [], [], [0, 2], [0]⟩ 1 ⟨[(0, .one (.c (.d (.int .u64 n_)))), (2, .one (.c (.ptr 0 0)))], [], [(0, [.d (.int .i64 0), .d (.int .u64 0)])], 1⟩ [] (by kernel_rfl) trivial ?_
  have h := Option.some.inj h
  subst h
  exact At.fin hm ht ⟨[], [], [], [2], [0]⟩ [0 + 2 ≤ 2] (by kernel_rfl) ⟨(by decide), trivial⟩
/-! brougham/pack.Put -/
def f73_pack_Put_in (b : List Int) (l : List (Int × Int)) : Inn := ⟨[.c (.d (.sl (.int .u8) b)), .c (.d (.sl (.pair (.int .i64) (.int .u64)) l))], [], [], 0⟩
def f73_pack_Put_out (r : List Int) : Out := ⟨.one (.c (.own 0 (.int .u8) r)), [(0, ⟨5, 0⟩)], [], 1⟩
def f73_pack_Put_L7 : Nat → (List Int) → Int → (List (Int × Int)) → Int → Int → Int → Int → Option (List Int × (List (Int × Int)) × Int × Int)
  | 0, _, _, _, _, _, _, _ => none
  | n + 1, out, i, t11, t12, t13, f_0, f_1 =>
    if (decide ((i : Int) ≥ 0)) = true then
      if (0 : Int) ≤ (IntKind.wrap .i64 (8 * i)) then
      if out.length + [(IntKind.wrap .u8 (Int.fdiv f_1 (2 ^ (min (IntKind.wrap .i64 (8 * i)).toNat (IntKind.bits .u64)))))].length ≤ maxLen ∧ (out.length + [(IntKind.wrap .u8 (Int.fdiv f_1 (2 ^ (min (IntKind.wrap .i64 (8 * i)).toNat (IntKind.bits .u64)))))].length) * 1 ≤ 140737488355328 then
      f73_pack_Put_L7 n (out ++ [(IntKind.wrap .u8 (Int.fdiv f_1 (2 ^ (min (IntKind.wrap .i64 (8 * i)).toNat (IntKind.bits .u64)))))]) (IntKind.wrap .i64 (i - 1)) t11 t12 t13 f_0 f_1
      else none
      else none
    else
      some ((out, t11, t12, t13))
def f73_pack_Put_L7_k (e : List Int × (List (Int × Int)) × Int × Int) (o : Out) : Prop := At Go.Proofs.Try.prog Go.Proofs.Try.f73 0 10 ⟨[(5, .one (.c (.own 0 (.int .u8) e.1))), (11, .one (.c (.d (.sl (.pair (.int .i64) (.int .u64)) e.2.1)))), (12, .one (.c (.d (.int .i64 e.2.2.1)))), (13, .one (.c (.d (.int .i64 e.2.2.2))))], [(0, some ⟨5, 0⟩)], [], 1⟩ o
theorem f73_pack_Put_L7_ok (n : Nat) : ∀ (out : List Int) (i : Int) (t11 : List (Int × Int)) (t12 : Int) (t13 : Int) (f_0 : Int) (f_1 : Int) (w : List Int × (List (Int × Int)) × Int × Int) (h : f73_pack_Put_L7 n out i t11 t12 t13 f_0 f_1 = some w) (o : Out) (hk : f73_pack_Put_L7_k w o), At Go.Proofs.Try.prog Go.Proofs.Try.f73 0 7 ⟨[(5, .one (.c (.own 0 (.int .u8) out))), (7, .one (.c (.ptr 1 0))), (8, .one (.c (.d (.int .i64 i)))), (11, .one (.c (.d (.sl (.pair (.int .i64) (.int .u64)) t11)))), (12, .one (.c (.d (.int .i64 t12)))), (13, .one (.c (.d (.int .i64 t13))))], [(0, some ⟨5, 0⟩)], [(1, [.d (.int .i64 f_0), .d (.int .u64 f_1)])], 2⟩ o := by
  induction n with
  | zero => intro out i t11 t12 t13 f_0 f_1 w h; rw [f73_pack_Put_L7] at h; cases h
  | succ n ih =>
    intro out i t11 t12 t13 f_0 f_1 w h o hk
    rw [f73_pack_Put_L7] at h
    rcases iteS h with ⟨b111_e0, h⟩ | ⟨b111_e0, h⟩
    · refine At.step hm ht ⟨[], [true], [], [5, 7, 8, 11, 12, 13], [0, 1]⟩ 9 ⟨[(5, .one (.c (.own 0 (.int .u8) out))), (7, .one (.c (.ptr 1 0))), (8, .one (.c (.d (.int .i64 i)))), (11, .one (.c (.d (.sl (.pair (.int .i64) (.int .u64)) t11)))), (12, .one (.c (.d (.int .i64 t12)))), (13, .one (.c (.d (.int .i64 t13))))], [(0, some ⟨5, 0⟩)], [(1, [.d (.int .i64 f_0), .d (.int .u64 f_1)])], 2⟩ [(decide ((i : Int) ≥ 0)) = true] (by kernel_rfl) ⟨b111_e0, trivial⟩ ?_
      obtain ⟨g112_0, h⟩ := ifS h
      obtain ⟨g112_1, h⟩ := ifS h
      refine At.step hm ht ⟨[], [], [], [5, 7, 8, 11, 12, 13], [10, 1]⟩ 8 ⟨[(5, .one (.c (.own 0 (.int .u8) (out ++ [(IntKind.wrap .u8 (Int.fdiv f_1 (2 ^ (min (IntKind.wrap .i64 (8 * i)).toNat (IntKind.bits .u64)))))])))), (7, .one (.c (.ptr 1 0))), (8, .one (.c (.d (.int .i64 i)))), (11, .one (.c (.d (.sl (.pair (.int .i64) (.int .u64)) t11)))), (12, .one (.c (.d (.int .i64 t12)))), (13, .one (.c (.d (.int .i64 t13))))], [(0, some ⟨5, 0⟩)], [(1, [.d (.int .i64 f_0), .d (.int .u64 f_1)])], 2⟩ [(0 : Int) ≤ (IntKind.wrap .i64 (8 * i)), out.length + [(IntKind.wrap .u8 (Int.fdiv f_1 (2 ^ (min (IntKind.wrap .i64 (8 * i)).toNat (IntKind.bits .u64)))))].length ≤ maxLen ∧ (out.length + [(IntKind.wrap .u8 (Int.fdiv f_1 (2 ^ (min (IntKind.wrap .i64 (8 * i)).toNat (IntKind.bits .u64)))))].length) * 1 ≤ 140737488355328] (by kernel_rfl) ⟨g112_0, g112_1, trivial⟩ ?_
      refine At.step hm ht ⟨[], [], [], [5, 7, 8, 11, 12, 13], [0, 1]⟩ 7 ⟨[(5, .one (.c (.own 0 (.int .u8) (out ++ [(IntKind.wrap .u8 (Int.fdiv f_1 (2 ^ (min (IntKind.wrap .i64 (8 * i)).toNat (IntKind.bits .u64)))))])))), (7, .one (.c (.ptr 1 0))), (8, .one (.c (.d (.int .i64 (IntKind.wrap .i64 (i - 1)))))), (11, .one (.c (.d (.sl (.pair (.int .i64) (.int .u64)) t11)))), (12, .one (.c (.d (.int .i64 t12)))), (13, .one (.c (.d (.int .i64 t13))))], [(0, some ⟨5, 0⟩)], [(1, [.d (.int .i64 f_0), .d (.int .u64 f_1)])], 2⟩ [] (by kernel_rfl) trivial ?_
      exact ih (out ++ [(IntKind.wrap .u8 (Int.fdiv f_1 (2 ^ (min (IntKind.wrap .i64 (8 * i)).toNat (IntKind.bits .u64)))))]) (IntKind.wrap .i64 (i - 1)) t11 t12 t13 f_0 f_1 w h o hk
    · refine At.step hm ht ⟨[], [false], [], [5, 11, 12, 13], [0]⟩ 10 ⟨[(5, .one (.c (.own 0 (.int .u8) out))), (11, .one (.c (.d (.sl (.pair (.int .i64) (.int .u64)) t11)))), (12, .one (.c (.d (.int .i64 t12)))), (13, .one (.c (.d (.int .i64 t13))))], [(0, some ⟨5, 0⟩)], [], 1⟩ [(decide ((i : Int) ≥ 0)) = false] (by kernel_rfl) ⟨b111_e0, trivial⟩ ?_
      have h := Option.some.inj h
      subst h
      exact hk
def f73_pack_Put_L3 : Nat → (List Int) → (List (Int × Int)) → Int → Int → Option (List Int)
  | 0, _, _, _, _ => none
  | n + 1, out, t11, t12, t13 =>
    if (decide ((t13 : Int) < t12)) = true then
      if (0 : Int) ≤ t13 ∧ t13 < (((t11).length : Nat) : Int) then
      if (decide ((((t11.getD t13.toNat (0, 0)).1) : Int) < 1)) = true then
        f73_pack_Put_L3 n out t11 t12 (IntKind.wrap .i64 (t13 + 1))
      else
        if (decide ((((t11.getD t13.toNat (0, 0)).1) : Int) > 8)) = true then
          f73_pack_Put_L3 n out t11 t12 (IntKind.wrap .i64 (t13 + 1))
        else
          (f73_pack_Put_L7 n out (IntKind.wrap .i64 (((t11.getD t13.toNat (0, 0)).1) - 1)) t11 t12 t13 ((t11.getD t13.toNat (0, 0)).1) ((t11.getD t13.toNat (0, 0)).2)).bind fun w114 =>
          f73_pack_Put_L3 n w114.1 w114.2.1 w114.2.2.1 (IntKind.wrap .i64 (w114.2.2.2 + 1))
      else none
    else
      some (out)
def f73_pack_Put_L3_k (e : List Int) (o : Out) : Prop := At Go.Proofs.Try.prog Go.Proofs.Try.f73 0 11 ⟨[(5, .one (.c (.own 0 (.int .u8) e)))], [(0, some ⟨5, 0⟩)], [], 1⟩ o
theorem f73_pack_Put_L3_ok (n : Nat) : ∀ (out : List Int) (t11 : List (Int × Int)) (t12 : Int) (t13 : Int) (w : List Int) (h : f73_pack_Put_L3 n out t11 t12 t13 = some w) (o : Out) (hk : f73_pack_Put_L3_k w o), At Go.Proofs.Try.prog Go.Proofs.Try.f73 0 3 ⟨[(5, .one (.c (.own 0 (.int .u8) out))), (11, .one (.c (.d (.sl (.pair (.int .i64) (.int .u64)) t11)))), (12, .one (.c (.d (.int .i64 t12)))), (13, .one (.c (.d (.int .i64 t13))))], [(0, some ⟨5, 0⟩)], [], 1⟩ o := by
  induction n with
  | zero => intro out t11 t12 t13 w h; rw [f73_pack_Put_L3] at h; cases h
  | succ n ih =>
    intro out t11 t12 t13 w h o hk
    rw [f73_pack_Put_L3] at h
    rcases iteS h with ⟨b105_e0, h⟩ | ⟨b105_e0, h⟩
    · refine At.step hm ht ⟨[], [true], [], [5, 11, 12, 13], [0]⟩ 4 ⟨[(5, .one (.c (.own 0 (.int .u8) out))), (11, .one (.c (.d (.sl (.pair (.int .i64) (.int .u64)) t11)))), (12, .one (.c (.d (.int .i64 t12)))), (13, .one (.c (.d (.int .i64 t13))))], [(0, some ⟨5, 0⟩)], [], 1⟩ [(decide ((t13 : Int) < t12)) = true] (by kernel_rfl) ⟨b105_e0, trivial⟩ ?_
      obtain ⟨g106_0, h⟩ := ifS h
      refine At.step hm ht ⟨[], [], [], [5, 7, 11, 12, 13], [0, 3]⟩ 5 ⟨[(5, .one (.c (.own 0 (.int .u8) out))), (7, .one (.c (.ptr 1 0))), (11, .one (.c (.d (.sl (.pair (.int .i64) (.int .u64)) t11)))), (12, .one (.c (.d (.int .i64 t12)))), (13, .one (.c (.d (.int .i64 t13))))], [(0, some ⟨5, 0⟩)], [(1, [.d (.int .i64 ((t11.getD t13.toNat (0, 0)).1)), .d (.int .u64 ((t11.getD t13.toNat (0, 0)).2))])], 2⟩ [(0 : Int) ≤ t13 ∧ t13 < (((t11).length : Nat) : Int), 0 + 2 ≤ 2] (by kernel_rfl) ⟨g106_0, (by decide), trivial⟩ ?_
      rcases iteS h with ⟨b107_3, h⟩ | ⟨b107_3, h⟩
      · refine At.step hm ht ⟨[(3, .b true)], [true], [], [5, 11, 12, 13], [0]⟩ 10 ⟨[(5, .one (.c (.own 0 (.int .u8) out))), (11, .one (.c (.d (.sl (.pair (.int .i64) (.int .u64)) t11)))), (12, .one (.c (.d (.int .i64 t12)))), (13, .one (.c (.d (.int .i64 t13))))], [(0, some ⟨5, 0⟩)], [], 1⟩ [(decide ((((t11.getD t13.toNat (0, 0)).1) : Int) < 1)) = true, true = true] (by kernel_rfl) ⟨b107_3, rfl, trivial⟩ ?_
        refine At.step hm ht ⟨[], [], [], [5, 11, 12, 13], [0]⟩ 3 ⟨[(5, .one (.c (.own 0 (.int .u8) out))), (11, .one (.c (.d (.sl (.pair (.int .i64) (.int .u64)) t11)))), (12, .one (.c (.d (.int .i64 t12)))), (13, .one (.c (.d (.int .i64 (IntKind.wrap .i64 (t13 + 1))))))], [(0, some ⟨5, 0⟩)], [], 1⟩ [] (by kernel_rfl) trivial ?_
        exact ih out t11 t12 (IntKind.wrap .i64 (t13 + 1)) w h o hk
      · rcases iteS h with ⟨b107_e0, h⟩ | ⟨b107_e0, h⟩
        · refine At.step hm ht ⟨[(3, .b false)], [true], [], [5, 11, 12, 13], [0]⟩ 10 ⟨[(5, .one (.c (.own 0 (.int .u8) out))), (11, .one (.c (.d (.sl (.pair (.int .i64) (.int .u64)) t11)))), (12, .one (.c (.d (.int .i64 t12)))), (13, .one (.c (.d (.int .i64 t13))))], [(0, some ⟨5, 0⟩)], [], 1⟩ [(decide ((((t11.getD t13.toNat (0, 0)).1) : Int) < 1)) = false, (decide ((((t11.getD t13.toNat (0, 0)).1) : Int) > 8)) = true] (by kernel_rfl) ⟨b107_3, b107_e0, trivial⟩ ?_
          refine At.step hm ht ⟨[], [], [], [5, 11, 12, 13], [0]⟩ 3 ⟨[(5, .one (.c (.own 0 (.int .u8) out))), (11, .one (.c (.d (.sl (.pair (.int .i64) (.int .u64)) t11)))), (12, .one (.c (.d (.int .i64 t12)))), (13, .one (.c (.d (.int .i64 (IntKind.wrap .i64 (t13 + 1))))))], [(0, some ⟨5, 0⟩)], [], 1⟩ [] (by kernel_rfl) trivial ?_
          exact ih out t11 t12 (IntKind.wrap .i64 (t13 + 1)) w h o hk
        · refine At.step hm ht ⟨[(3, .b false)], [false], [], [5, 7, 11, 12, 13], [0, 1]⟩ 6 ⟨[(5, .one (.c (.own 0 (.int .u8) out))), (7, .one (.c (.ptr 1 0))), (11, .one (.c (.d (.sl (.pair (.int .i64) (.int .u64)) t11)))), (12, .one (.c (.d (.int .i64 t12)))), (13, .one (.c (.d (.int .i64 t13))))], [(0, some ⟨5, 0⟩)], [(1, [.d (.int .i64 ((t11.getD t13.toNat (0, 0)).1)), .d (.int .u64 ((t11.getD t13.toNat (0, 0)).2))])], 2⟩ [(decide ((((t11.getD t13.toNat (0, 0)).1) : Int) < 1)) = false, (decide ((((t11.getD t13.toNat (0, 0)).1) : Int) > 8)) = false] (by kernel_rfl) ⟨b107_3, b107_e0, trivial⟩ ?_
          refine At.step hm ht ⟨[], [], [], [5, 7, 8, 11, 12, 13], [0, 1]⟩ 7 ⟨[(5, .one (.c (.own 0 (.int .u8) out))), (7, .one (.c (.ptr 1 0))), (8, .one (.c (.d (.int .i64 (IntKind.wrap .i64 (((t11.getD t13.toNat (0, 0)).1) - 1)))))), (11, .one (.c (.d (.sl (.pair (.int .i64) (.int .u64)) t11)))), (12, .one (.c (.d (.int .i64 t12)))), (13, .one (.c (.d (.int .i64 t13))))], [(0, some ⟨5, 0⟩)], [(1, [.d (.int .i64 ((t11.getD t13.toNat (0, 0)).1)), .d (.int .u64 ((t11.getD t13.toNat (0, 0)).2))])], 2⟩ [] (by kernel_rfl) trivial ?_
          obtain ⟨w114, cw114, h⟩ := bindS h
          refine f73_pack_Put_L7_ok n out (IntKind.wrap .i64 (((t11.getD t13.toNat (0, 0)).1) - 1)) t11 t12 t13 ((t11.getD t13.toNat (0, 0)).1) ((t11.getD t13.toNat (0, 0)).2) w114 cw114 _ ?_
          show At Go.Proofs.Try.prog Go.Proofs.Try.f73 0 10 ⟨[(5, .one (.c (.own 0 (.int .u8) w114.1))), (11, .one (.c (.d (.sl (.pair (.int .i64) (.int .u64)) w114.2.1)))), (12, .one (.c (.d (.int .i64 w114.2.2.1)))), (13, .one (.c (.d (.int .i64 w114.2.2.2))))], [(0, some ⟨5, 0⟩)], [], 1⟩ _
          refine At.step hm ht ⟨[], [], [], [5, 11, 12, 13], [0]⟩ 3 ⟨[(5, .one (.c (.own 0 (.int .u8) w114.1))), (11, .one (.c (.d (.sl (.pair (.int .i64) (.int .u64)) w114.2.1)))), (12, .one (.c (.d (.int .i64 w114.2.2.1)))), (13, .one (.c (.d (.int .i64 (IntKind.wrap .i64 (w114.2.2.2 + 1))))))], [(0, some ⟨5, 0⟩)], [], 1⟩ [] (by kernel_rfl) trivial ?_
          exact ih w114.1 w114.2.1 w114.2.2.1 (IntKind.wrap .i64 (w114.2.2.2 + 1)) w h o hk
    · refine At.step hm ht ⟨[], [false], [], [5], [0]⟩ 11 ⟨[(5, .one (.c (.own 0 (.int .u8) out)))], [(0, some ⟨5, 0⟩)], [], 1⟩ [(decide ((t13 : Int) < t12)) = false] (by kernel_rfl) ⟨b105_e0, trivial⟩ ?_
      have h := Option.some.inj h
      subst h
      exact hk
def f73_pack_Put (n : Nat) (b : List Int) (l : List (Int × Int)) : Option (List Int) :=
  if b.length ≤ maxLen ∧ b.length * 1 ≤ 140737488355328 then
  (f73_pack_Put_L3 n b l ((l.length : Nat) : Int) 0).bind fun w117 =>
  some w117
  else none
theorem f73_pack_Put_ok (n : Nat) (b : List Int) (l : List (Int × Int)) (r : List Int) (h : f73_pack_Put n b l = some r) : FnOK Go.Proofs.Try.prog 73 (f73_pack_Put_in b l) (f73_pack_Put_out r) := by
  unfold f73_pack_Put at h
  refine At.fn (r := 0) Go.Proofs.Try.func73 rfl (by kernel_rfl) rfl rfl (by kernel_rfl) ?_
  show At Go.Proofs.Try.prog Go.Proofs.Try.f73 0 0 ⟨[(0, .one (.c (.d (.sl (.int .u8) b)))), (1, .one (.c (.d (.sl (.pair (.int .i64) (.int .u64)) l))))], [], [], 0⟩ _
  refine At.step hm ht ⟨[], [], [], [0, 1], []⟩ 1 ⟨[(0, .one (.c (.d (.sl (.int .u8) b)))), (1, .one (.c (.d (.sl (.pair (.int .i64) (.int .u64)) l))))], [], [], 0⟩ [] (by kernel_rfl) trivial ?_
  obtain ⟨g103_0, h⟩ := ifS h
  refine At.step hm ht ⟨[], [], [], [1, 5], [1]⟩ 2 ⟨[(1, .one (.c (.d (.sl (.pair (.int .i64) (.int .u64)) l)))), (5, .one (.c (.own 0 (.int .u8) b)))], [(0, some ⟨5, 0⟩)], [], 1⟩ [b.length ≤ maxLen ∧ b.length * 1 ≤ 140737488355328] (by kernel_rfl) ⟨g103_0, trivial⟩ ?_
  refine At.step hm ht ⟨[], [], [], [5, 11, 12, 13], [0]⟩ 3 ⟨[(5, .one (.c (.own 0 (.int .u8) b))), (11, .one (.c (.d (.sl (.pair (.int .i64) (.int .u64)) l)))), (12, .one (.c (.d (.int .i64 ((l.length : Nat) : Int))))), (13, .one (.c (.d (.int .i64 0))))], [(0, some ⟨5, 0⟩)], [], 1⟩ [] (by kernel_rfl) trivial ?_
  obtain ⟨w117, cw117, h⟩ := bindS h
  refine f73_pack_Put_L3_ok n b l ((l.length : Nat) : Int) 0 w117 cw117 _ ?_
  show At Go.Proofs.Try.prog Go.Proofs.Try.f73 0 11 ⟨[(5, .one (.c (.own 0 (.int .u8) w117)))], [(0, some ⟨5, 0⟩)], [], 1⟩ _
  have h := Option.some.inj h
  subst h
  exact At.fin hm ht ⟨[], [], [], [4], [0]⟩ [] (by kernel_rfl) trivial
/-! (brougham/opt.Key).Option -/
def f21_opt_Key_Option_in (k_0 : Int) (k_1 : Bool) (k_2 : Int) : Inn := ⟨[.agg [.d (.int .u64 k_0), .d (.bool k_1), .d (.int .u64 k_2)]], [], [], 0⟩
def f21_opt_Key_Option_out (r : Int × List Int) : Out := ⟨.one (.agg [.d (.int .u8 r.1), .own 1 (.int .u8) r.2]), [(1, ⟨5, 0⟩)], [(0, [.d (.int .u8 r.1), .own 1 (.int .u8) r.2])], 2⟩
def f21_opt_Key_Option (n : Nat) (k_0 : Int) (k_1 : Bool) (k_2 : Int) : Option (Int × List Int) :=
  (f74_pack_Q k_0).bind fun r99_0 =>
  (f73_pack_Put n [] [r99_0]).bind fun r99_1 =>
  if k_1 = true then
    (f74_pack_Q k_2).bind fun r121_0 =>
    (f73_pack_Put n r99_1 [r121_0]).bind fun r121_1 =>
    some (1, r121_1)
  else
    some (1, r99_1)
theorem f21_opt_Key_Option_ok (n : Nat) (k_0 : Int) (k_1 : Bool) (k_2 : Int) (r : Int × List Int) (h : f21_opt_Key_Option n k_0 k_1 k_2 = some r) : FnOK Go.Proofs.Try.prog 21 (f21_opt_Key_Option_in k_0 k_1 k_2) (f21_opt_Key_Option_out r) := by
  unfold f21_opt_Key_Option at h
  refine At.fn (r := 0) Go.Proofs.Try.func21 rfl (by kernel_rfl) rfl rfl (by kernel_rfl) ?_
  show At Go.Proofs.Try.prog Go.Proofs.Try.f21 0 0 ⟨[(0, .one (.agg [.d (.int .u64 k_0), .d (.bool k_1), .d (.int .u64 k_2)]))], [], [], 0⟩ _
  refine At.step hm ht ⟨[], [], [], [1, 2], [0, 1]⟩ 1 ⟨[(1, .one (.c (.ptr 0 0))), (2, .one (.c (.ptr 1 0)))], [], [(0, [.d (.int .u64 k_0), .d (.bool k_1), .d (.int .u64 k_2)]), (1, [.d (.int .u8 0), .d (.sl .unit [])])], 2⟩ [] (by kernel_rfl) trivial ?_
  obtain ⟨r99_0, cr99_0, h⟩ := bindS h
  obtain ⟨r99_1, cr99_1, h⟩ := bindS h
  refine At.step hm ht ⟨[(2, .call [] [] (f74_pack_Q_out r99_0)), (4, .call [] [(0, 0, (.int .u8))] (f73_pack_Put_out r99_1))], [], [], [1, 2, 3], [0, 1, 6]⟩ 2 ⟨[(1, .one (.c (.ptr 0 0))), (2, .one (.c (.ptr 1 0))), (3, .one (.c (.own 2 (.int .u8) r99_1)))], [(2, some ⟨5, 0⟩)], [(0, [.d (.int .u64 k_0), .d (.bool k_1), .d (.int .u64 k_2)]), (1, [.d (.int .u8 0), .d (.sl .unit [])])], 3⟩ [FnOK Go.Proofs.Try.prog 74 (f74_pack_Q_in k_0) (f74_pack_Q_out r99_0), FnOK Go.Proofs.Try.prog 73 (f73_pack_Put_in [] [r99_0]) (f73_pack_Put_out r99_1)] (by kernel_rfl) ⟨(f74_pack_Q_ok k_0 r99_0 cr99_0), (f73_pack_Put_ok n [] [r99_0] r99_1 cr99_1), trivial⟩ ?_
  rcases iteS h with ⟨b120_e0, h⟩ | ⟨b120_e0, h⟩
  · refine At.step hm ht ⟨[], [true], [], [1, 2, 3], [0, 1, 2]⟩ 3 ⟨[(1, .one (.c (.ptr 0 0))), (2, .one (.c (.ptr 1 0))), (3, .one (.c (.own 2 (.int .u8) r99_1)))], [(2, some ⟨5, 0⟩)], [(0, [.d (.int .u64 k_0), .d (.bool k_1), .d (.int .u64 k_2)]), (1, [.d (.int .u8 0), .d (.sl .unit [])])], 3⟩ [k_1 = true] (by kernel_rfl) ⟨b120_e0, trivial⟩ ?_
    obtain ⟨r121_0, cr121_0, h⟩ := bindS h
    obtain ⟨r121_1, cr121_1, h⟩ := bindS h
    refine At.step hm ht ⟨[(4, .call [] [] (f74_pack_Q_out r121_0)), (6, .call [] [] (f73_pack_Put_out r121_1))], [], [], [2, 3], [1, 9]⟩ 4 ⟨[(2, .one (.c (.ptr 0 0))), (3, .one (.c (.own 1 (.int .u8) r121_1)))], [(1, some ⟨5, 0⟩)], [(0, [.d (.int .u8 0), .d (.sl .unit [])])], 2⟩ [FnOK Go.Proofs.Try.prog 74 (f74_pack_Q_in k_2) (f74_pack_Q_out r121_0), FnOK Go.Proofs.Try.prog 73 (f73_pack_Put_in r99_1 [r121_0]) (f73_pack_Put_out r121_1)] (by kernel_rfl) ⟨(f74_pack_Q_ok k_2 r121_0 cr121_0), (f73_pack_Put_ok n r99_1 [r121_0] r121_1 cr121_1), trivial⟩ ?_
    have h := Option.some.inj h
    subst h
    exact At.fin hm ht ⟨[], [], [], [2], [0, 1]⟩ [0 + 2 ≤ 2] (by kernel_rfl) ⟨(by decide), trivial⟩
  · refine At.step hm ht ⟨[], [false], [], [2, 3], [1, 2]⟩ 4 ⟨[(2, .one (.c (.ptr 0 0))), (3, .one (.c (.own 1 (.int .u8) r99_1)))], [(1, some ⟨5, 0⟩)], [(0, [.d (.int .u8 0), .d (.sl .unit [])])], 2⟩ [k_1 = false] (by kernel_rfl) ⟨b120_e0, trivial⟩ ?_
    have h := Option.some.inj h
    subst h
    exact At.fin hm ht ⟨[], [], [], [2], [0, 1]⟩ [0 + 2 ≤ 2] (by kernel_rfl) ⟨(by decide), trivial⟩
/-! brougham/pack.Get -/
def f83_pack_Get_in (b : List Int) (sizes : List Int) : Inn := ⟨[.c (.d (.sl (.int .u8) b)), .c (.d (.sl (.int .i64) sizes))], [], [], 0⟩
def f83_pack_Get_out (r : List Int × List Int × Bool) : Out := ⟨.tup [.c (.own 0 (.int .u64) r.1), .c (.own 1 (.int .u8) r.2.1), .c (.d (.bool r.2.2))], [(0, ⟨36, 0⟩), (1, ⟨5, 0⟩)], [], 2⟩
def f83_pack_Get_L9 : Nat → (List Int) → (List Int) → Int → Int → (List Int) → Int → Int → (List Int) → Int → Int → Option (List Int × List Int × Int × Int × List Int × Int × Int)
  | 0, _, _, _, _, _, _, _, _, _, _ => none
  | n + 1, b, out, n_, x, t13, t14, t15, t33, t34, t35 =>
    if (decide ((t35 : Int) < t34)) = true then
      if (0 : Int) ≤ t35 ∧ t35 < (((t33).length : Nat) : Int) then
      f83_pack_Get_L9 n b out n_ (bits .or .u64 (IntKind.wrap .u64 (x * 2 ^ 8)) (IntKind.wrap .u64 (t33.getD t35.toNat 0))) t13 t14 t15 t33 t34 (IntKind.wrap .i64 (t35 + 1))
      else none
    else
      some ((b, out, n_, x, t13, t14, t15))
def f83_pack_Get_L9_k (e : List Int × List Int × Int × Int × List Int × Int × Int) (o : Out) : Prop := At Go.Proofs.Try.prog Go.Proofs.Try.f83 0 13 ⟨[(0, .one (.c (.d (.sl (.int .u8) e.1)))), (7, .one (.c (.own 0 (.int .u64) e.2.1))), (9, .one (.c (.d (.int .i64 e.2.2.1)))), (10, .one (.c (.d (.int .u64 e.2.2.2.1)))), (13, .one (.c (.d (.sl (.int .i64) e.2.2.2.2.1)))), (14, .one (.c (.d (.int .i64 e.2.2.2.2.2.1)))), (15, .one (.c (.d (.int .i64 e.2.2.2.2.2.2))))], [(0, some ⟨36, 0⟩)], [], 1⟩ o
theorem f83_pack_Get_L9_ok (n : Nat) : ∀ (b : List Int) (out : List Int) (n_ : Int) (x : Int) (t13 : List Int) (t14 : Int) (t15 : Int) (t33 : List Int) (t34 : Int) (t35 : Int) (w : List Int × List Int × Int × Int × List Int × Int × Int) (h : f83_pack_Get_L9 n b out n_ x t13 t14 t15 t33 t34 t35 = some w) (o : Out) (hk : f83_pack_Get_L9_k w o), At Go.Proofs.Try.prog Go.Proofs.Try.f83 0 9 ⟨[(0, .one (.c (.d (.sl (.int .u8) b)))), (7, .one (.c (.own 0 (.int .u64) out))), (9, .one (.c (.d (.int .i64 n_)))), (10, .one (.c (.d (.int .u64 x)))), (13, .one (.c (.d (.sl (.int .i64) t13)))), (14, .one (.c (.d (.int .i64 t14)))), (15, .one (.c (.d (.int .i64 t15)))), (33, .one (.c (.d (.sl (.int .u8) t33)))), (34, .one (.c (.d (.int .i64 t34)))), (35, .one (.c (.d (.int .i64 t35))))], [(0, some ⟨36, 0⟩)], [], 1⟩ o := by
  induction n with
  | zero => intro b out n_ x t13 t14 t15 t33 t34 t35 w h; rw [f83_pack_Get_L9] at h; cases h
  | succ n ih =>
    intro b out n_ x t13 t14 t15 t33 t34 t35 w h o hk
    rw [f83_pack_Get_L9] at h
    rcases iteS h with ⟨b197_e0, h⟩ | ⟨b197_e0, h⟩
    · refine At.step hm ht ⟨[], [true], [], [0, 7, 9, 10, 13, 14, 15, 33, 34, 35], [0]⟩ 10 ⟨[(0, .one (.c (.d (.sl (.int .u8) b)))), (7, .one (.c (.own 0 (.int .u64) out))), (9, .one (.c (.d (.int .i64 n_)))), (10, .one (.c (.d (.int .u64 x)))), (13, .one (.c (.d (.sl (.int .i64) t13)))), (14, .one (.c (.d (.int .i64 t14)))), (15, .one (.c (.d (.int .i64 t15)))), (33, .one (.c (.d (.sl (.int .u8) t33)))), (34, .one (.c (.d (.int .i64 t34)))), (35, .one (.c (.d (.int .i64 t35))))], [(0, some ⟨36, 0⟩)], [], 1⟩ [(decide ((t35 : Int) < t34)) = true] (by kernel_rfl) ⟨b197_e0, trivial⟩ ?_
      obtain ⟨g198_0, h⟩ := ifS h
      refine At.step hm ht ⟨[], [], [], [0, 7, 9, 10, 12, 13, 14, 15, 33, 34, 35], [0]⟩ 11 ⟨[(0, .one (.c (.d (.sl (.int .u8) b)))), (7, .one (.c (.own 0 (.int .u64) out))), (9, .one (.c (.d (.int .i64 n_)))), (10, .one (.c (.d (.int .u64 x)))), (12, .one (.c (.d (.int .u8 (t33.getD t35.toNat 0))))), (13, .one (.c (.d (.sl (.int .i64) t13)))), (14, .one (.c (.d (.int .i64 t14)))), (15, .one (.c (.d (.int .i64 t15)))), (33, .one (.c (.d (.sl (.int .u8) t33)))), (34, .one (.c (.d (.int .i64 t34)))), (35, .one (.c (.d (.int .i64 t35))))], [(0, some ⟨36, 0⟩)], [], 1⟩ [(0 : Int) ≤ t35 ∧ t35 < (((t33).length : Nat) : Int)] (by kernel_rfl) ⟨g198_0, trivial⟩ ?_
      refine At.step hm ht ⟨[], [], [], [0, 7, 9, 10, 13, 14, 15, 33, 34, 35], [0]⟩ 12 ⟨[(0, .one (.c (.d (.sl (.int .u8) b)))), (7, .one (.c (.own 0 (.int .u64) out))), (9, .one (.c (.d (.int .i64 n_)))), (10, .one (.c (.d (.int .u64 (bits .or .u64 (IntKind.wrap .u64 (x * 2 ^ 8)) (IntKind.wrap .u64 (t33.getD t35.toNat 0))))))), (13, .one (.c (.d (.sl (.int .i64) t13)))), (14, .one (.c (.d (.int .i64 t14)))), (15, .one (.c (.d (.int .i64 t15)))), (33, .one (.c (.d (.sl (.int .u8) t33)))), (34, .one (.c (.d (.int .i64 t34)))), (35, .one (.c (.d (.int .i64 t35))))], [(0, some ⟨36, 0⟩)], [], 1⟩ [(0 : Int) ≤ 8] (by kernel_rfl) ⟨(by decide), trivial⟩ ?_
      refine At.step hm ht ⟨[], [], [], [0, 7, 9, 10, 13, 14, 15, 33, 34, 35], [0]⟩ 9 ⟨[(0, .one (.c (.d (.sl (.int .u8) b)))), (7, .one (.c (.own 0 (.int .u64) out))), (9, .one (.c (.d (.int .i64 n_)))), (10, .one (.c (.d (.int .u64 (bits .or .u64 (IntKind.wrap .u64 (x * 2 ^ 8)) (IntKind.wrap .u64 (t33.getD t35.toNat 0))))))), (13, .one (.c (.d (.sl (.int .i64) t13)))), (14, .one (.c (.d (.int .i64 t14)))), (15, .one (.c (.d (.int .i64 t15)))), (33, .one (.c (.d (.sl (.int .u8) t33)))), (34, .one (.c (.d (.int .i64 t34)))), (35, .one (.c (.d (.int .i64 (IntKind.wrap .i64 (t35 + 1))))))], [(0, some ⟨36, 0⟩)], [], 1⟩ [] (by kernel_rfl) trivial ?_
      exact ih b out n_ (bits .or .u64 (IntKind.wrap .u64 (x * 2 ^ 8)) (IntKind.wrap .u64 (t33.getD t35.toNat 0))) t13 t14 t15 t33 t34 (IntKind.wrap .i64 (t35 + 1)) w h o hk
    · refine At.step hm ht ⟨[], [false], [], [0, 7, 9, 10, 13, 14, 15], [0]⟩ 13 ⟨[(0, .one (.c (.d (.sl (.int .u8) b)))), (7, .one (.c (.own 0 (.int .u64) out))), (9, .one (.c (.d (.int .i64 n_)))), (10, .one (.c (.d (.int .u64 x)))), (13, .one (.c (.d (.sl (.int .i64) t13)))), (14, .one (.c (.d (.int .i64 t14)))), (15, .one (.c (.d (.int .i64 t15))))], [(0, some ⟨36, 0⟩)], [], 1⟩ [(decide ((t35 : Int) < t34)) = false] (by kernel_rfl) ⟨b197_e0, trivial⟩ ?_
      have h := Option.some.inj h
      subst h
      exact hk
def f83_pack_Get_L3 : Nat → (List Int) → (List Int) → (List Int) → Int → Int → Option ((List Int × List Int × Bool) ⊕ (List Int × List Int))
  | 0, _, _, _, _, _ => none
  | n + 1, b, out, t13, t14, t15 =>
    if (decide ((t15 : Int) < t14)) = true then
      if (0 : Int) ≤ t15 ∧ t15 < (((t13).length : Nat) : Int) then
      if (decide (((t13.getD t15.toNat 0) : Int) < 1)) = true then
        some (.inl ([], [], false))
      else
        if (decide (((t13.getD t15.toNat 0) : Int) > 8)) = true then
          some (.inl ([], [], false))
        else
          if (decide (((t13.getD t15.toNat 0) : Int) > ((b.length : Nat) : Int))) = true then
            some (.inl ([], [], false))
          else
            if cutOk b.length none (some (t13.getD t15.toNat 0)) none then
            (f83_pack_Get_L9 n b out (t13.getD t15.toNat 0) 0 t13 t14 t15 (b.take (t13.getD t15.toNat 0).toNat) (((b.take (t13.getD t15.toNat 0).toNat).length : Nat) : Int) 0).bind fun w201 =>
            if w201.2.1.length + [w201.2.2.2.1].length ≤ maxLen ∧ (w201.2.1.length + [w201.2.2.2.1].length) * 8 ≤ 140737488355328 then
            if cutOk w201.1.length (some w201.2.2.1) none none then
            f83_pack_Get_L3 n ((w201.1.take w201.1.length).drop w201.2.2.1.toNat) (w201.2.1 ++ [w201.2.2.2.1]) w201.2.2.2.2.1 w201.2.2.2.2.2.1 (IntKind.wrap .i64 (w201.2.2.2.2.2.2 + 1))
            else none
            else none
            else none
      else none
    else
      some (.inr ((b, out)))
def f83_pack_Get_L3_k (w : (List Int × List Int × Bool) ⊕ (List Int × List Int)) (o : Out) : Prop := match w with
  | .inl e => o = f83_pack_Get_out e
  | .inr e => At Go.Proofs.Try.prog Go.Proofs.Try.f83 0 16 ⟨[(0, .one (.c (.d (.sl (.int .u8) e.1)))), (7, .one (.c (.own 0 (.int .u64) e.2)))], [(0, some ⟨36, 0⟩)], [], 1⟩ o
theorem f83_pack_Get_L3_ok (n : Nat) : ∀ (b : List Int) (out : List Int) (t13 : List Int) (t14 : Int) (t15 : Int) (w : (List Int × List Int × Bool) ⊕ (List Int × List Int)) (h : f83_pack_Get_L3 n b out t13 t14 t15 = some w) (o : Out) (hk : f83_pack_Get_L3_k w o), At Go.Proofs.Try.prog Go.Proofs.Try.f83 0 3 ⟨[(0, .one (.c (.d (.sl (.int .u8) b)))), (7, .one (.c (.own 0 (.int .u64) out))), (13, .one (.c (.d (.sl (.int .i64) t13)))), (14, .one (.c (.d (.int .i64 t14)))), (15, .one (.c (.d (.int .i64 t15))))], [(0, some ⟨36, 0⟩)], [], 1⟩ o := by
  induction n with
  | zero => intro b out t13 t14 t15 w h; rw [f83_pack_Get_L3] at h; cases h
  | succ n ih =>
    intro b out t13 t14 t15 w h o hk
    rw [f83_pack_Get_L3] at h
    rcases iteS h with ⟨b189_e0, h⟩ | ⟨b189_e0, h⟩
    · refine At.step hm ht ⟨[], [true], [], [0, 7, 13, 14, 15], [0]⟩ 4 ⟨[(0, .one (.c (.d (.sl (.int .u8) b)))), (7, .one (.c (.own 0 (.int .u64) out))), (13, .one (.c (.d (.sl (.int .i64) t13)))), (14, .one (.c (.d (.int .i64 t14)))), (15, .one (.c (.d (.int .i64 t15))))], [(0, some ⟨36, 0⟩)], [], 1⟩ [(decide ((t15 : Int) < t14)) = true] (by kernel_rfl) ⟨b189_e0, trivial⟩ ?_
      obtain ⟨g190_0, h⟩ := ifS h
      refine At.step hm ht ⟨[], [], [], [0, 7, 9, 13, 14, 15], [0]⟩ 5 ⟨[(0, .one (.c (.d (.sl (.int .u8) b)))), (7, .one (.c (.own 0 (.int .u64) out))), (9, .one (.c (.d (.int .i64 (t13.getD t15.toNat 0))))), (13, .one (.c (.d (.sl (.int .i64) t13)))), (14, .one (.c (.d (.int .i64 t14)))), (15, .one (.c (.d (.int .i64 t15))))], [(0, some ⟨36, 0⟩)], [], 1⟩ [(0 : Int) ≤ t15 ∧ t15 < (((t13).length : Nat) : Int)] (by kernel_rfl) ⟨g190_0, trivial⟩ ?_
      rcases iteS h with ⟨b191_2, h⟩ | ⟨b191_2, h⟩
      · refine At.step hm ht ⟨[(2, .b true)], [true], [], [], []⟩ 6 ⟨[], [], [], 0⟩ [(decide (((t13.getD t15.toNat 0) : Int) < 1)) = true, true = true] (by kernel_rfl) ⟨b191_2, rfl, trivial⟩ ?_
        have h := Option.some.inj h
        subst h
        have hk : o = f83_pack_Get_out ([], [], false) := hk
        subst hk
        exact At.fin hm ht ⟨[], [], [.nil false 4 0 (.int .u64) (some 36), .nil false 5 0 (.int .u8) (some 5)], [4, 5, 6], [3, 4]⟩ [] (by kernel_rfl) trivial
      · rcases iteS h with ⟨b191_6, h⟩ | ⟨b191_6, h⟩
        · refine At.step hm ht ⟨[(2, .b false), (6, .b true)], [true], [], [], []⟩ 6 ⟨[], [], [], 0⟩ [(decide (((t13.getD t15.toNat 0) : Int) < 1)) = false, (decide (((t13.getD t15.toNat 0) : Int) > 8)) = true, true = true] (by kernel_rfl) ⟨b191_2, b191_6, rfl, trivial⟩ ?_
          have h := Option.some.inj h
          subst h
          have hk : o = f83_pack_Get_out ([], [], false) := hk
          subst hk
          exact At.fin hm ht ⟨[], [], [.nil false 4 0 (.int .u64) (some 36), .nil false 5 0 (.int .u8) (some 5)], [4, 5, 6], [3, 4]⟩ [] (by kernel_rfl) trivial
        · rcases iteS h with ⟨b191_e0, h⟩ | ⟨b191_e0, h⟩
          · refine At.step hm ht ⟨[(2, .b false), (6, .b false)], [true], [], [], []⟩ 6 ⟨[], [], [], 0⟩ [(decide (((t13.getD t15.toNat 0) : Int) < 1)) = false, (decide (((t13.getD t15.toNat 0) : Int) > 8)) = false, (decide (((t13.getD t15.toNat 0) : Int) > ((b.length : Nat) : Int))) = true] (by kernel_rfl) ⟨b191_2, b191_6, b191_e0, trivial⟩ ?_
            have h := Option.some.inj h
            subst h
            have hk : o = f83_pack_Get_out ([], [], false) := hk
            subst hk
            exact At.fin hm ht ⟨[], [], [.nil false 4 0 (.int .u64) (some 36), .nil false 5 0 (.int .u8) (some 5)], [4, 5, 6], [3, 4]⟩ [] (by kernel_rfl) trivial
          · refine At.step hm ht ⟨[(2, .b false), (6, .b false)], [false], [], [0, 7, 9, 13, 14, 15], [0]⟩ 7 ⟨[(0, .one (.c (.d (.sl (.int .u8) b)))), (7, .one (.c (.own 0 (.int .u64) out))), (9, .one (.c (.d (.int .i64 (t13.getD t15.toNat 0))))), (13, .one (.c (.d (.sl (.int .i64) t13)))), (14, .one (.c (.d (.int .i64 t14)))), (15, .one (.c (.d (.int .i64 t15))))], [(0, some ⟨36, 0⟩)], [], 1⟩ [(decide (((t13.getD t15.toNat 0) : Int) < 1)) = false, (decide (((t13.getD t15.toNat 0) : Int) > 8)) = false, (decide (((t13.getD t15.toNat 0) : Int) > ((b.length : Nat) : Int))) = false] (by kernel_rfl) ⟨b191_2, b191_6, b191_e0, trivial⟩ ?_
            refine At.step hm ht ⟨[], [], [], [0, 7, 9, 10, 13, 14, 15], [0]⟩ 8 ⟨[(0, .one (.c (.d (.sl (.int .u8) b)))), (7, .one (.c (.own 0 (.int .u64) out))), (9, .one (.c (.d (.int .i64 (t13.getD t15.toNat 0))))), (10, .one (.c (.d (.int .u64 0)))), (13, .one (.c (.d (.sl (.int .i64) t13)))), (14, .one (.c (.d (.int .i64 t14)))), (15, .one (.c (.d (.int .i64 t15))))], [(0, some ⟨36, 0⟩)], [], 1⟩ [] (by kernel_rfl) trivial ?_
            obtain ⟨g196_0, h⟩ := ifS h
            refine At.step hm ht ⟨[], [], [], [0, 7, 9, 10, 13, 14, 15, 33, 34, 35], [0]⟩ 9 ⟨[(0, .one (.c (.d (.sl (.int .u8) b)))), (7, .one (.c (.own 0 (.int .u64) out))), (9, .one (.c (.d (.int .i64 (t13.getD t15.toNat 0))))), (10, .one (.c (.d (.int .u64 0)))), (13, .one (.c (.d (.sl (.int .i64) t13)))), (14, .one (.c (.d (.int .i64 t14)))), (15, .one (.c (.d (.int .i64 t15)))), (33, .one (.c (.d (.sl (.int .u8) (b.take (t13.getD t15.toNat 0).toNat))))), (34, .one (.c (.d (.int .i64 (((b.take (t13.getD t15.toNat 0).toNat).length : Nat) : Int))))), (35, .one (.c (.d (.int .i64 0))))], [(0, some ⟨36, 0⟩)], [], 1⟩ [cutOk b.length none (some (t13.getD t15.toNat 0)) none] (by kernel_rfl) ⟨g196_0, trivial⟩ ?_
            obtain ⟨w201, cw201, h⟩ := bindS h
            refine f83_pack_Get_L9_ok n b out (t13.getD t15.toNat 0) 0 t13 t14 t15 (b.take (t13.getD t15.toNat 0).toNat) (((b.take (t13.getD t15.toNat 0).toNat).length : Nat) : Int) 0 w201 cw201 _ ?_
            show At Go.Proofs.Try.prog Go.Proofs.Try.f83 0 13 ⟨[(0, .one (.c (.d (.sl (.int .u8) w201.1)))), (7, .one (.c (.own 0 (.int .u64) w201.2.1))), (9, .one (.c (.d (.int .i64 w201.2.2.1)))), (10, .one (.c (.d (.int .u64 w201.2.2.2.1)))), (13, .one (.c (.d (.sl (.int .i64) w201.2.2.2.2.1)))), (14, .one (.c (.d (.int .i64 w201.2.2.2.2.2.1)))), (15, .one (.c (.d (.int .i64 w201.2.2.2.2.2.2))))], [(0, some ⟨36, 0⟩)], [], 1⟩ _
            obtain ⟨g203_0, h⟩ := ifS h
            refine At.step hm ht ⟨[], [], [], [0, 7, 9, 13, 14, 15], [4]⟩ 14 ⟨[(0, .one (.c (.d (.sl (.int .u8) w201.1)))), (7, .one (.c (.own 0 (.int .u64) (w201.2.1 ++ [w201.2.2.2.1])))), (9, .one (.c (.d (.int .i64 w201.2.2.1)))), (13, .one (.c (.d (.sl (.int .i64) w201.2.2.2.2.1)))), (14, .one (.c (.d (.int .i64 w201.2.2.2.2.2.1)))), (15, .one (.c (.d (.int .i64 w201.2.2.2.2.2.2))))], [(0, some ⟨36, 0⟩)], [], 1⟩ [w201.2.1.length + [w201.2.2.2.1].length ≤ maxLen ∧ (w201.2.1.length + [w201.2.2.2.1].length) * 8 ≤ 140737488355328] (by kernel_rfl) ⟨g203_0, trivial⟩ ?_
            obtain ⟨g204_0, h⟩ := ifS h
            refine At.step hm ht ⟨[], [], [], [0, 7, 13, 14, 15], [0]⟩ 15 ⟨[(0, .one (.c (.d (.sl (.int .u8) ((w201.1.take w201.1.length).drop w201.2.2.1.toNat))))), (7, .one (.c (.own 0 (.int .u64) (w201.2.1 ++ [w201.2.2.2.1])))), (13, .one (.c (.d (.sl (.int .i64) w201.2.2.2.2.1)))), (14, .one (.c (.d (.int .i64 w201.2.2.2.2.2.1)))), (15, .one (.c (.d (.int .i64 w201.2.2.2.2.2.2))))], [(0, some ⟨36, 0⟩)], [], 1⟩ [cutOk w201.1.length (some w201.2.2.1) none none] (by kernel_rfl) ⟨g204_0, trivial⟩ ?_
            refine At.step hm ht ⟨[], [], [], [0, 7, 13, 14, 15], [0]⟩ 3 ⟨[(0, .one (.c (.d (.sl (.int .u8) ((w201.1.take w201.1.length).drop w201.2.2.1.toNat))))), (7, .one (.c (.own 0 (.int .u64) (w201.2.1 ++ [w201.2.2.2.1])))), (13, .one (.c (.d (.sl (.int .i64) w201.2.2.2.2.1)))), (14, .one (.c (.d (.int .i64 w201.2.2.2.2.2.1)))), (15, .one (.c (.d (.int .i64 (IntKind.wrap .i64 (w201.2.2.2.2.2.2 + 1))))))], [(0, some ⟨36, 0⟩)], [], 1⟩ [] (by kernel_rfl) trivial ?_
            exact ih ((w201.1.take w201.1.length).drop w201.2.2.1.toNat) (w201.2.1 ++ [w201.2.2.2.1]) w201.2.2.2.2.1 w201.2.2.2.2.2.1 (IntKind.wrap .i64 (w201.2.2.2.2.2.2 + 1)) w h o hk
    · refine At.step hm ht ⟨[], [false], [], [0, 7], [0]⟩ 16 ⟨[(0, .one (.c (.d (.sl (.int .u8) b)))), (7, .one (.c (.own 0 (.int .u64) out)))], [(0, some ⟨36, 0⟩)], [], 1⟩ [(decide ((t15 : Int) < t14)) = false] (by kernel_rfl) ⟨b189_e0, trivial⟩ ?_
      have h := Option.some.inj h
      subst h
      exact hk
def f83_pack_Get (n : Nat) (b : List Int) (sizes : List Int) : Option (List Int × List Int × Bool) :=
  (f83_pack_Get_L3 n b [] sizes ((sizes.length : Nat) : Int) 0).bind fun w206 =>
  match w206 with
  | .inl e207 =>
    some (e207.1, e207.2.1, e207.2.2)
  | .inr e208 =>
    if e208.1.length ≤ maxLen ∧ e208.1.length * 1 ≤ 140737488355328 then
    some (e208.2, e208.1, true)
    else none
theorem f83_pack_Get_ok (n : Nat) (b : List Int) (sizes : List Int) (r : List Int × List Int × Bool) (h : f83_pack_Get n b sizes = some r) : FnOK Go.Proofs.Try.prog 83 (f83_pack_Get_in b sizes) (f83_pack_Get_out r) := by
  unfold f83_pack_Get at h
  refine At.fn (r := 0) Go.Proofs.Try.func83 rfl (by kernel_rfl) rfl rfl (by kernel_rfl) ?_
  show At Go.Proofs.Try.prog Go.Proofs.Try.f83 0 0 ⟨[(0, .one (.c (.d (.sl (.int .u8) b)))), (1, .one (.c (.d (.sl (.int .i64) sizes))))], [], [], 0⟩ _
  refine At.step hm ht ⟨[], [], [], [0, 1], []⟩ 1 ⟨[(0, .one (.c (.d (.sl (.int .u8) b)))), (1, .one (.c (.d (.sl (.int .i64) sizes))))], [], [], 0⟩ [] (by kernel_rfl) trivial ?_
  refine At.step hm ht ⟨[], [], [], [0, 1, 7], []⟩ 2 ⟨[(0, .one (.c (.d (.sl (.int .u8) b)))), (1, .one (.c (.d (.sl (.int .i64) sizes)))), (7, .one (.c (.d (.sl .unit []))))], [], [], 0⟩ [] (by kernel_rfl) trivial ?_
  refine At.step hm ht ⟨[], [], [.nil false 7 0 (.int .u64) (some 36)], [0, 7, 13, 14, 15], [3]⟩ 3 ⟨[(0, .one (.c (.d (.sl (.int .u8) b)))), (7, .one (.c (.own 0 (.int .u64) []))), (13, .one (.c (.d (.sl (.int .i64) sizes)))), (14, .one (.c (.d (.int .i64 ((sizes.length : Nat) : Int))))), (15, .one (.c (.d (.int .i64 0))))], [(0, some ⟨36, 0⟩)], [], 1⟩ [] (by kernel_rfl) trivial ?_
  obtain ⟨w206, cw206, h⟩ := bindS h
  refine f83_pack_Get_L3_ok n b [] sizes ((sizes.length : Nat) : Int) 0 w206 cw206 _ ?_
  rcases w206 with e207 | e208
  · have h := Option.some.inj h
    subst h
    rfl
  · show At Go.Proofs.Try.prog Go.Proofs.Try.f83 0 16 ⟨[(0, .one (.c (.d (.sl (.int .u8) e208.1)))), (7, .one (.c (.own 0 (.int .u64) e208.2)))], [(0, some ⟨36, 0⟩)], [], 1⟩ _
    obtain ⟨g209_0, h⟩ := ifS h
    have h := Option.some.inj h
    subst h
    exact At.fin hm ht ⟨[], [], [], [4, 5, 6], [0, 3]⟩ [e208.1.length ≤ maxLen ∧ e208.1.length * 1 ≤ 140737488355328] (by kernel_rfl) ⟨g209_0, trivial⟩
/-! brougham/pack.All -/
def f81_pack_All_in (b : List Int) (sizes : List Int) : Inn := ⟨[.c (.d (.sl (.int .u8) b)), .c (.d (.sl (.int .i64) sizes))], [], [], 0⟩
def f81_pack_All_out (r : List Int × Bool) : Out := ⟨.tup [.c (.own 0 (.int .u64) r.1), .c (.d (.bool r.2))], [(0, ⟨36, 0⟩)], [], 1⟩
def f81_pack_All (n : Nat) (b : List Int) (sizes : List Int) : Option (List Int × Bool) :=
  (f83_pack_Get n b sizes).bind fun r215_0 =>
  if (!r215_0.2.2) = true then
    some ([], false)
  else
    if (decide ((((r215_0.2.1.length : Nat) : Int) : Int) > 0)) = true then
      some ([], false)
    else
      some (r215_0.1, true)
theorem f81_pack_All_ok (n : Nat) (b : List Int) (sizes : List Int) (r : List Int × Bool) (h : f81_pack_All n b sizes = some r) : FnOK Go.Proofs.Try.prog 81 (f81_pack_All_in b sizes) (f81_pack_All_out r) := by
  unfold f81_pack_All at h
  refine At.fn (r := 0) Go.Proofs.Try.func81 rfl (by kernel_rfl) rfl rfl (by kernel_rfl) ?_
  show At Go.Proofs.Try.prog Go.Proofs.Try.f81 0 0 ⟨[(0, .one (.c (.d (.sl (.int .u8) b)))), (1, .one (.c (.d (.sl (.int .i64) sizes))))], [], [], 0⟩ _
  refine At.step hm ht ⟨[], [], [], [0, 1], []⟩ 1 ⟨[(0, .one (.c (.d (.sl (.int .u8) b)))), (1, .one (.c (.d (.sl (.int .i64) sizes))))], [], [], 0⟩ [] (by kernel_rfl) trivial ?_
  obtain ⟨r215_0, cr215_0, h⟩ := bindS h
  refine At.step hm ht ⟨[(2, .call [] [] (f83_pack_Get_out r215_0))], [], [], [6, 7, 8], [2, 3]⟩ 2 ⟨[(6, .one (.c (.own 0 (.int .u64) r215_0.1))), (7, .one (.c (.own 1 (.int .u8) r215_0.2.1))), (8, .one (.c (.d (.bool r215_0.2.2))))], [(0, some ⟨36, 0⟩), (1, some ⟨5, 0⟩)], [], 2⟩ [FnOK Go.Proofs.Try.prog 83 (f83_pack_Get_in b sizes) (f83_pack_Get_out r215_0)] (by kernel_rfl) ⟨(f83_pack_Get_ok n b sizes r215_0 cr215_0), trivial⟩ ?_
  rcases iteS h with ⟨b216_2, h⟩ | ⟨b216_2, h⟩
  · refine At.step hm ht ⟨[(2, .b true)], [true], [], [], []⟩ 3 ⟨[], [], [], 0⟩ [(!r215_0.2.2) = true, true = true] (by kernel_rfl) ⟨b216_2, rfl, trivial⟩ ?_
    have h := Option.some.inj h
    subst h
    exact At.fin hm ht ⟨[], [], [.nil false 4 0 (.int .u64) (some 36)], [4, 5], [2]⟩ [] (by kernel_rfl) trivial
  · rcases iteS h with ⟨b216_e0, h⟩ | ⟨b216_e0, h⟩
    · refine At.step hm ht ⟨[(2, .b false)], [true], [], [], []⟩ 3 ⟨[], [], [], 0⟩ [(!r215_0.2.2) = false, (decide ((((r215_0.2.1.length : Nat) : Int) : Int) > 0)) = true] (by kernel_rfl) ⟨b216_2, b216_e0, trivial⟩ ?_
      have h := Option.some.inj h
      subst h
      exact At.fin hm ht ⟨[], [], [.nil false 4 0 (.int .u64) (some 36)], [4, 5], [2]⟩ [] (by kernel_rfl) trivial
    · refine At.step hm ht ⟨[(2, .b false)], [false], [], [6], [0]⟩ 4 ⟨[(6, .one (.c (.own 0 (.int .u64) r215_0.1)))], [(0, some ⟨36, 0⟩)], [], 1⟩ [(!r215_0.2.2) = false, (decide ((((r215_0.2.1.length : Nat) : Int) : Int) > 0)) = false] (by kernel_rfl) ⟨b216_2, b216_e0, trivial⟩ ?_
      have h := Option.some.inj h
      subst h
      exact At.fin hm ht ⟨[], [], [], [4, 5], [0]⟩ [] (by kernel_rfl) trivial
/-! brougham/opt.ParseKey -/
def f32_opt_ParseKey_in (o__0 : Int) (o__1 : List Int) : Inn := ⟨[.agg [.d (.int .u8 o__0), .d (.sl (.int .u8) o__1)]], [], [], 0⟩
def f32_opt_ParseKey_out (r : Bool × Int × Bool × Int) : Out := ⟨.tup [.agg [.d (.int .u64 r.2.1), .d (.bool r.2.2.1), .d (.int .u64 r.2.2.2)], .c (.d (.bool r.1))], [], [(0, [.d (.int .u64 r.2.1), .d (.bool r.2.2.1), .d (.int .u64 r.2.2.2)])], 1⟩
def f32_opt_ParseKey (n : Nat) (o__0 : Int) (o__1 : List Int) : Option (Bool × Int × Bool × Int) :=
  if ((o__0 : Int) != 1) = true then
    some (false, 0, false, 0)
  else
    (f81_pack_All n o__1 [8]).bind fun r128_0 =>
    if r128_0.2 = true then
      if (0 : Int) ≤ 0 ∧ 0 < (((r128_0.1).length : Nat) : Int) then
      some (true, (r128_0.1.getD 0 0), false, 0)
      else none
    else
      (f81_pack_All n o__1 [8, 8]).bind fun r222_0 =>
      if (!r222_0.2) = true then
        some (false, 0, false, 0)
      else
        if (0 : Int) ≤ 0 ∧ 0 < (((r222_0.1).length : Nat) : Int) then
        if (0 : Int) ≤ 1 ∧ 1 < (((r222_0.1).length : Nat) : Int) then
        some (true, (r222_0.1.getD 0 0), true, (r222_0.1.getD 1 0))
        else none
        else none
theorem f32_opt_ParseKey_ok (n : Nat) (o__0 : Int) (o__1 : List Int) (r : Bool × Int × Bool × Int) (h : f32_opt_ParseKey n o__0 o__1 = some r) : FnOK Go.Proofs.Try.prog 32 (f32_opt_ParseKey_in o__0 o__1) (f32_opt_ParseKey_out r) := by
  unfold f32_opt_ParseKey at h
  refine At.fn (r := 0) Go.Proofs.Try.func32 rfl (by kernel_rfl) rfl rfl (by kernel_rfl) ?_
  show At Go.Proofs.Try.prog Go.Proofs.Try.f32 0 0 ⟨[(0, .one (.agg [.d (.int .u8 o__0), .d (.sl (.int .u8) o__1)]))], [], [], 0⟩ _
  refine At.step hm ht ⟨[], [], [], [1, 2], [0, 1]⟩ 1 ⟨[(1, .one (.c (.ptr 0 0))), (2, .one (.c (.ptr 1 0)))], [], [(0, [.d (.int .u8 o__0), .d (.sl (.int .u8) o__1)]), (1, [.d (.int .u64 0), .d (.bool false), .d (.int .u64 0)])], 2⟩ [] (by kernel_rfl) trivial ?_
  rcases iteS h with ⟨b126_e0, h⟩ | ⟨b126_e0, h⟩
  · refine At.step hm ht ⟨[], [true], [], [2], [1]⟩ 2 ⟨[(2, .one (.c (.ptr 0 0)))], [], [(0, [.d (.int .u64 0), .d (.bool false), .d (.int .u64 0)])], 1⟩ [((o__0 : Int) != 1) = true] (by kernel_rfl) ⟨b126_e0, trivial⟩ ?_
    have h := Option.some.inj h
    subst h
    exact At.fin hm ht ⟨[], [], [], [2, 3], [0]⟩ [0 + 3 ≤ 3] (by kernel_rfl) ⟨(by decide), trivial⟩
  · refine At.step hm ht ⟨[], [false], [], [1, 2], [0, 1]⟩ 3 ⟨[(1, .one (.c (.ptr 0 0))), (2, .one (.c (.ptr 1 0)))], [], [(0, [.d (.int .u8 o__0), .d (.sl (.int .u8) o__1)]), (1, [.d (.int .u64 0), .d (.bool false), .d (.int .u64 0)])], 2⟩ [((o__0 : Int) != 1) = false] (by kernel_rfl) ⟨b126_e0, trivial⟩ ?_
    obtain ⟨r128_0, cr128_0, h⟩ := bindS h
    refine At.step hm ht ⟨[(3, .call [] [] (f81_pack_All_out r128_0))], [], [], [1, 2, 4, 5], [0, 1, 5]⟩ 4 ⟨[(1, .one (.c (.ptr 0 0))), (2, .one (.c (.ptr 1 0))), (4, .one (.c (.own 2 (.int .u64) r128_0.1))), (5, .one (.c (.d (.bool r128_0.2))))], [(2, some ⟨36, 0⟩)], [(0, [.d (.int .u8 o__0), .d (.sl (.int .u8) o__1)]), (1, [.d (.int .u64 0), .d (.bool false), .d (.int .u64 0)])], 3⟩ [FnOK Go.Proofs.Try.prog 81 (f81_pack_All_in o__1 [8]) (f81_pack_All_out r128_0)] (by kernel_rfl) ⟨(f81_pack_All_ok n o__1 [8] r128_0 cr128_0), trivial⟩ ?_
    rcases iteS h with ⟨b220_e0, h⟩ | ⟨b220_e0, h⟩
    · refine At.step hm ht ⟨[], [true], [], [2, 4], [1, 2]⟩ 5 ⟨[(2, .one (.c (.ptr 0 0))), (4, .one (.c (.own 1 (.int .u64) r128_0.1)))], [(1, some ⟨36, 0⟩)], [(0, [.d (.int .u64 0), .d (.bool false), .d (.int .u64 0)])], 2⟩ [r128_0.2 = true] (by kernel_rfl) ⟨b220_e0, trivial⟩ ?_
      obtain ⟨g221_0, h⟩ := ifS h
      have h := Option.some.inj h
      subst h
      exact At.fin hm ht ⟨[], [], [], [2, 3], [0]⟩ [(0 : Int) ≤ 0 ∧ 0 < (((r128_0.1).length : Nat) : Int), 0 + 3 ≤ 3] (by kernel_rfl) ⟨g221_0, (by decide), trivial⟩
    · refine At.step hm ht ⟨[], [false], [], [1, 2], [0, 1]⟩ 6 ⟨[(1, .one (.c (.ptr 0 0))), (2, .one (.c (.ptr 1 0)))], [], [(0, [.d (.int .u8 o__0), .d (.sl (.int .u8) o__1)]), (1, [.d (.int .u64 0), .d (.bool false), .d (.int .u64 0)])], 2⟩ [r128_0.2 = false] (by kernel_rfl) ⟨b220_e0, trivial⟩ ?_
      obtain ⟨r222_0, cr222_0, h⟩ := bindS h
      refine At.step hm ht ⟨[(3, .call [] [] (f81_pack_All_out r222_0))], [], [], [2, 6, 7], [1, 5]⟩ 7 ⟨[(2, .one (.c (.ptr 0 0))), (6, .one (.c (.own 1 (.int .u64) r222_0.1))), (7, .one (.c (.d (.bool r222_0.2))))], [(1, some ⟨36, 0⟩)], [(0, [.d (.int .u64 0), .d (.bool false), .d (.int .u64 0)])], 2⟩ [FnOK Go.Proofs.Try.prog 81 (f81_pack_All_in o__1 [8, 8]) (f81_pack_All_out r222_0)] (by kernel_rfl) ⟨(f81_pack_All_ok n o__1 [8, 8] r222_0 cr222_0), trivial⟩ ?_
      rcases iteS h with ⟨b223_e0, h⟩ | ⟨b223_e0, h⟩
      · refine At.step hm ht ⟨[], [true], [], [2], [0]⟩ 8 ⟨[(2, .one (.c (.ptr 0 0)))], [], [(0, [.d (.int .u64 0), .d (.bool false), .d (.int .u64 0)])], 1⟩ [(!r222_0.2) = true] (by kernel_rfl) ⟨b223_e0, trivial⟩ ?_
        have h := Option.some.inj h
        subst h
        exact At.fin hm ht ⟨[], [], [], [2, 3], [0]⟩ [0 + 3 ≤ 3] (by kernel_rfl) ⟨(by decide), trivial⟩
      · refine At.step hm ht ⟨[], [false], [], [2, 6], [0, 1]⟩ 9 ⟨[(2, .one (.c (.ptr 0 0))), (6, .one (.c (.own 1 (.int .u64) r222_0.1)))], [(1, some ⟨36, 0⟩)], [(0, [.d (.int .u64 0), .d (.bool false), .d (.int .u64 0)])], 2⟩ [(!r222_0.2) = false] (by kernel_rfl) ⟨b223_e0, trivial⟩ ?_
        obtain ⟨g225_0, h⟩ := ifS h
        obtain ⟨g225_1, h⟩ := ifS h
        have h := Option.some.inj h
        subst h
        exact At.fin hm ht ⟨[], [], [], [2, 3], [0]⟩ [(0 : Int) ≤ 0 ∧ 0 < (((r222_0.1).length : Nat) : Int), (0 : Int) ≤ 1 ∧ 1 < (((r222_0.1).length : Nat) : Int), 0 + 3 ≤ 3] (by kernel_rfl) ⟨g225_0, g225_1, (by decide), trivial⟩
/-! (*brougham/opt.Tagged).Seal -/
def f72_opt_Tagged_Seal_in (tag : Int) (t_0 : Bool) (t_1 : Bool) (t_2 : Int) (t_3 : Int) (t_4 : Int) (t_5 : Int) : Inn := ⟨[.c (.ptr 0 5), .c (.d (.int .u64 tag))], [], [(0, [.d (.bool t_0), .d (.bool t_1), .d (.int .u64 t_2), .d (.int .u64 t_3), .d (.int .u32 t_4), .d (.int .u64 t_5)])], 1⟩
def f72_opt_Tagged_Seal_out (r : Bool × Bool × Int × Int × Int × Int) : Out := ⟨.tup [], [], [(0, [.d (.bool r.1), .d (.bool r.2.1), .d (.int .u64 r.2.2.1), .d (.int .u64 r.2.2.2.1), .d (.int .u32 r.2.2.2.2.1), .d (.int .u64 r.2.2.2.2.2)])], 1⟩
def f72_opt_Tagged_Seal (tag : Int) (t_0 : Bool) (t_1 : Bool) (t_2 : Int) (t_3 : Int) (t_4 : Int) (t_5 : Int) : Option (Bool × Bool × Int × Int × Int × Int) :=
  some (t_0, t_1, t_2, t_3, t_4, tag)
theorem f72_opt_Tagged_Seal_ok (tag : Int) (t_0 : Bool) (t_1 : Bool) (t_2 : Int) (t_3 : Int) (t_4 : Int) (t_5 : Int) (r : Bool × Bool × Int × Int × Int × Int) (h : f72_opt_Tagged_Seal tag t_0 t_1 t_2 t_3 t_4 t_5 = some r) : FnOK Go.Proofs.Try.prog 72 (f72_opt_Tagged_Seal_in tag t_0 t_1 t_2 t_3 t_4 t_5) (f72_opt_Tagged_Seal_out r) := by
  unfold f72_opt_Tagged_Seal at h
  refine At.fn (r := 0) Go.Proofs.Try.func72 rfl (by kernel_rfl) rfl rfl (by kernel_rfl) ?_
  show At Go.Proofs.Try.prog Go.Proofs.Try.f72 1 0 ⟨[(0, .one (.c (.ptr 0 5))), (1, .one (.c (.d (.int .u64 tag))))], [], [(0, [.d (.bool t_0), .d (.bool t_1), .d (.int .u64 t_2), .d (.int .u64 t_3), .d (.int .u32 t_4), .d (.int .u64 t_5)])], 1⟩ _
  have h := Option.some.inj h
  subst h
  exact At.fin hm ht ⟨[], [], [], [], [0]⟩ [5 + 1 ≤ 6] (by kernel_rfl) ⟨(by decide), trivial⟩
/-! brougham/opt.bits -/
def f80_opt_bits_in (a : Bool) (b : Bool) : Inn := ⟨[.c (.d (.bool a)), .c (.d (.bool b))], [], [], 0⟩
def f80_opt_bits_out (r : Int) : Out := ⟨.one (.c (.d (.int .u8 r))), [], [], 0⟩
def f80_opt_bits (a : Bool) (b : Bool) : Option (Int) :=
  if a = true then
    if b = true then
      some (bits .or .u8 (bits .or .u8 0 1) 2)
    else
      some (bits .or .u8 0 1)
  else
    if b = true then
      some (bits .or .u8 0 2)
    else
      some 0
theorem f80_opt_bits_ok (a : Bool) (b : Bool) (r : Int) (h : f80_opt_bits a b = some r) : FnOK Go.Proofs.Try.prog 80 (f80_opt_bits_in a b) (f80_opt_bits_out r) := by
  unfold f80_opt_bits at h
  refine At.fn (r := 0) Go.Proofs.Try.func80 rfl (by kernel_rfl) rfl rfl (by kernel_rfl) ?_
  show At Go.Proofs.Try.prog Go.Proofs.Try.f80 0 0 ⟨[(0, .one (.c (.d (.bool a)))), (1, .one (.c (.d (.bool b))))], [], [], 0⟩ _
  refine At.step hm ht ⟨[], [], [], [0, 1], []⟩ 1 ⟨[(0, .one (.c (.d (.bool a)))), (1, .one (.c (.d (.bool b))))], [], [], 0⟩ [] (by kernel_rfl) trivial ?_
  refine At.step hm ht ⟨[], [], [], [0, 1, 5], []⟩ 2 ⟨[(0, .one (.c (.d (.bool a)))), (1, .one (.c (.d (.bool b)))), (5, .one (.c (.d (.int .u8 0))))], [], [], 0⟩ [] (by kernel_rfl) trivial ?_
  rcases iteS h with ⟨b234_e0, h⟩ | ⟨b234_e0, h⟩
  · refine At.step hm ht ⟨[], [true], [], [1, 5], []⟩ 3 ⟨[(1, .one (.c (.d (.bool b)))), (5, .one (.c (.d (.int .u8 0))))], [], [], 0⟩ [a = true] (by kernel_rfl) ⟨b234_e0, trivial⟩ ?_
    refine At.step hm ht ⟨[], [], [], [1, 5], []⟩ 4 ⟨[(1, .one (.c (.d (.bool b)))), (5, .one (.c (.d (.int .u8 (bits .or .u8 0 1)))))], [], [], 0⟩ [] (by kernel_rfl) trivial ?_
    rcases iteS h with ⟨b236_e0, h⟩ | ⟨b236_e0, h⟩
    · refine At.step hm ht ⟨[], [true], [], [5], []⟩ 5 ⟨[(5, .one (.c (.d (.int .u8 (bits .or .u8 0 1)))))], [], [], 0⟩ [b = true] (by kernel_rfl) ⟨b236_e0, trivial⟩ ?_
      refine At.step hm ht ⟨[], [], [], [5], []⟩ 6 ⟨[(5, .one (.c (.d (.int .u8 (bits .or .u8 (bits .or .u8 0 1) 2)))))], [], [], 0⟩ [] (by kernel_rfl) trivial ?_
      have h := Option.some.inj h
      subst h
      exact At.fin hm ht ⟨[], [], [], [4], []⟩ [] (by kernel_rfl) trivial
    · refine At.step hm ht ⟨[], [false], [], [5], []⟩ 6 ⟨[(5, .one (.c (.d (.int .u8 (bits .or .u8 0 1)))))], [], [], 0⟩ [b = false] (by kernel_rfl) ⟨b236_e0, trivial⟩ ?_
      have h := Option.some.inj h
      subst h
      exact At.fin hm ht ⟨[], [], [], [4], []⟩ [] (by kernel_rfl) trivial
  · refine At.step hm ht ⟨[], [false], [], [1, 5], []⟩ 4 ⟨[(1, .one (.c (.d (.bool b)))), (5, .one (.c (.d (.int .u8 0))))], [], [], 0⟩ [a = false] (by kernel_rfl) ⟨b234_e0, trivial⟩ ?_
    rcases iteS h with ⟨b240_e0, h⟩ | ⟨b240_e0, h⟩
    · refine At.step hm ht ⟨[], [true], [], [5], []⟩ 5 ⟨[(5, .one (.c (.d (.int .u8 0))))], [], [], 0⟩ [b = true] (by kernel_rfl) ⟨b240_e0, trivial⟩ ?_
      refine At.step hm ht ⟨[], [], [], [5], []⟩ 6 ⟨[(5, .one (.c (.d (.int .u8 (bits .or .u8 0 2)))))], [], [], 0⟩ [] (by kernel_rfl) trivial ?_
      have h := Option.some.inj h
      subst h
      exact At.fin hm ht ⟨[], [], [], [4], []⟩ [] (by kernel_rfl) trivial
    · refine At.step hm ht ⟨[], [false], [], [5], []⟩ 6 ⟨[(5, .one (.c (.d (.int .u8 0))))], [], [], 0⟩ [b = false] (by kernel_rfl) ⟨b240_e0, trivial⟩ ?_
      have h := Option.some.inj h
      subst h
      exact At.fin hm ht ⟨[], [], [], [4], []⟩ [] (by kernel_rfl) trivial
/-! brougham/pack.B -/
def f77_pack_B_in (n_ : Int) : Inn := ⟨[.c (.d (.int .u8 n_))], [], [], 0⟩
def f77_pack_B_out (r : Int × Int) : Out := ⟨.one (.agg [.d (.int .i64 r.1), .d (.int .u64 r.2)]), [], [(0, [.d (.int .i64 r.1), .d (.int .u64 r.2)])], 1⟩
def f77_pack_B (n_ : Int) : Option (Int × Int) :=
  some (1, (IntKind.wrap .u64 n_))
theorem f77_pack_B_ok (n_ : Int) (r : Int × Int) (h : f77_pack_B n_ = some r) : FnOK Go.Proofs.Try.prog 77 (f77_pack_B_in n_) (f77_pack_B_out r) := by
  unfold f77_pack_B at h
  refine At.fn (r := 0) Go.Proofs.Try.func77 rfl (by kernel_rfl) rfl rfl (by kernel_rfl) ?_
  show At Go.Proofs.Try.prog Go.Proofs.Try.f77 0 0 ⟨[(0, .one (.c (.d (.int .u8 n_))))], [], [], 0⟩ _
  refine At.step hm ht ⟨[], [], [], [0, 2], [0]⟩ 1 ⟨[(0, .one (.c (.d (.int .u8 n_)))), (2, .one (.c (.ptr 0 0)))], [], [(0, [.d (.int .i64 0), .d (.int .u64 0)])], 1⟩ [] (by kernel_rfl) trivial ?_
  have h := Option.some.inj h
  subst h
  exact At.fin hm ht ⟨[], [], [], [2], [0]⟩ [0 + 2 ≤ 2] (by kernel_rfl) ⟨(by decide), trivial⟩
/-! brougham/pack.W -/
def f76_pack_W_in (n_ : Int) : Inn := ⟨[.c (.d (.int .u32 n_))], [], [], 0⟩
def f76_pack_W_out (r : Int × Int) : Out := ⟨.one (.agg [.d (.int .i64 r.1), .d (.int .u64 r.2)]), [], [(0, [.d (.int .i64 r.1), .d (.int .u64 r.2)])], 1⟩
def f76_pack_W (n_ : Int) : Option (Int × Int) :=
  some (4, (IntKind.wrap .u64 n_))
theorem f76_pack_W_ok (n_ : Int) (r : Int × Int) (h : f76_pack_W n_ = some r) : FnOK Go.Proofs.Try.prog 76 (f76_pack_W_in n_) (f76_pack_W_out r) := by
  unfold f76_pack_W at h
  refine At.fn (r := 0) Go.Proofs.Try.func76 rfl (by kernel_rfl) rfl rfl (by kernel_rfl) ?_
  show At Go.Proofs.Try.prog Go.Proofs.Try.f76 0 0 ⟨[(0, .one (.c (.d (.int .u32 n_))))], [], [], 0⟩ _
  refine At.step hm ht ⟨[], [], [], [0, 2], [0]⟩ 1 ⟨[(0, .one (.c (.d (.int .u32 n_)))), (2, .one (.c (.ptr 0 0)))], [], [(0, [.d (.int .i64 0), .d (.int .u64 0)])], 1⟩ [] (by kernel_rfl) trivial ?_
  have h := Option.some.inj h
  subst h
  exact At.fin hm ht ⟨[], [], [], [2], [0]⟩ [0 + 2 ≤ 2] (by kernel_rfl) ⟨(by decide), trivial⟩
/-! (brougham/opt.Data).Option -/
def f26_opt_Data_Option_in (d_0 : Bool) (d_1 : Bool) (d_2 : Int) (d_3 : Int) (d_4 : Int) (d_5 : Int) : Inn := ⟨[.agg [.d (.bool d_0), .d (.bool d_1), .d (.int .u64 d_2), .d (.int .u64 d_3), .d (.int .u32 d_4), .d (.int .u64 d_5)]], [], [], 0⟩
def f26_opt_Data_Option_out (r : Int × List Int) : Out := ⟨.one (.agg [.d (.int .u8 r.1), .own 1 (.int .u8) r.2]), [(1, ⟨5, 0⟩)], [(0, [.d (.int .u8 r.1), .own 1 (.int .u8) r.2])], 2⟩
def f26_opt_Data_Option (n : Nat) (d_0 : Bool) (d_1 : Bool) (d_2 : Int) (d_3 : Int) (d_4 : Int) (d_5 : Int) : Option (Int × List Int) :=
  (f80_opt_bits d_0 d_1).bind fun r231_0 =>
  (f77_pack_B r231_0).bind fun r231_1 =>
  (f74_pack_Q d_2).bind fun r231_2 =>
  (f74_pack_Q d_3).bind fun r231_3 =>
  (f76_pack_W d_4).bind fun r231_4 =>
  (f74_pack_Q d_5).bind fun r231_5 =>
  (f73_pack_Put n [] [r231_1, r231_2, r231_3, r231_4, r231_5]).bind fun r231_6 =>
  some (3, r231_6)
theorem f26_opt_Data_Option_ok (n : Nat) (d_0 : Bool) (d_1 : Bool) (d_2 : Int) (d_3 : Int) (d_4 : Int) (d_5 : Int) (r : Int × List Int) (h : f26_opt_Data_Option n d_0 d_1 d_2 d_3 d_4 d_5 = some r) : FnOK Go.Proofs.Try.prog 26 (f26_opt_Data_Option_in d_0 d_1 d_2 d_3 d_4 d_5) (f26_opt_Data_Option_out r) := by
  unfold f26_opt_Data_Option at h
  refine At.fn (r := 0) Go.Proofs.Try.func26 rfl (by kernel_rfl) rfl rfl (by kernel_rfl) ?_
  show At Go.Proofs.Try.prog Go.Proofs.Try.f26 0 0 ⟨[(0, .one (.agg [.d (.bool d_0), .d (.bool d_1), .d (.int .u64 d_2), .d (.int .u64 d_3), .d (.int .u32 d_4), .d (.int .u64 d_5)]))], [], [], 0⟩ _
  refine At.step hm ht ⟨[], [], [], [1, 2], [0, 1]⟩ 1 ⟨[(1, .one (.c (.ptr 0 0))), (2, .one (.c (.ptr 1 0)))], [], [(0, [.d (.bool d_0), .d (.bool d_1), .d (.int .u64 d_2), .d (.int .u64 d_3), .d (.int .u32 d_4), .d (.int .u64 d_5)]), (1, [.d (.int .u8 0), .d (.sl .unit [])])], 2⟩ [] (by kernel_rfl) trivial ?_
  obtain ⟨r231_0, cr231_0, h⟩ := bindS h
  obtain ⟨r231_1, cr231_1, h⟩ := bindS h
  obtain ⟨r231_2, cr231_2, h⟩ := bindS h
  obtain ⟨r231_3, cr231_3, h⟩ := bindS h
  obtain ⟨r231_4, cr231_4, h⟩ := bindS h
  obtain ⟨r231_5, cr231_5, h⟩ := bindS h
  obtain ⟨r231_6, cr231_6, h⟩ := bindS h
  have h := Option.some.inj h
  subst h
  exact At.fin hm ht ⟨[(4, .call [] [] (f80_opt_bits_out r231_0)), (5, .call [] [] (f77_pack_B_out r231_1)), (8, .call [] [] (f74_pack_Q_out r231_2)), (11, .call [] [] (f74_pack_Q_out r231_3)), (14, .call [] [] (f76_pack_W_out r231_4)), (18, .call [] [] (f74_pack_Q_out r231_5)), (20, .call [] [(0, 0, (.int .u8))] (f73_pack_Put_out r231_6))], [], [], [2], [1, 21]⟩ [FnOK Go.Proofs.Try.prog 80 (f80_opt_bits_in d_0 d_1) (f80_opt_bits_out r231_0), FnOK Go.Proofs.Try.prog 77 (f77_pack_B_in r231_0) (f77_pack_B_out r231_1), FnOK Go.Proofs.Try.prog 74 (f74_pack_Q_in d_2) (f74_pack_Q_out r231_2), FnOK Go.Proofs.Try.prog 74 (f74_pack_Q_in d_3) (f74_pack_Q_out r231_3), FnOK Go.Proofs.Try.prog 76 (f76_pack_W_in d_4) (f76_pack_W_out r231_4), FnOK Go.Proofs.Try.prog 74 (f74_pack_Q_in d_5) (f74_pack_Q_out r231_5), FnOK Go.Proofs.Try.prog 73 (f73_pack_Put_in [] [r231_1, r231_2, r231_3, r231_4, r231_5]) (f73_pack_Put_out r231_6), 0 + 2 ≤ 2] (by kernel_rfl) ⟨(f80_opt_bits_ok d_0 d_1 r231_0 cr231_0), (f77_pack_B_ok r231_0 r231_1 cr231_1), (f74_pack_Q_ok d_2 r231_2 cr231_2), (f74_pack_Q_ok d_3 r231_3 cr231_3), (f76_pack_W_ok d_4 r231_4 cr231_4), (f74_pack_Q_ok d_5 r231_5 cr231_5), (f73_pack_Put_ok n [] [r231_1, r231_2, r231_3, r231_4, r231_5] r231_6 cr231_6), (by decide), trivial⟩
/-! brougham/broughamlaw08.alive -/
def f19_broughamlaw08_alive_in : Inn := ⟨[], [], [], 0⟩
def f19_broughamlaw08_alive_out (r : Bool) : Out := ⟨.one (.c (.d (.bool r))), [], [], 0⟩
def f19_broughamlaw08_alive (n : Nat) : Option (Bool) :=
  (f21_opt_Key_Option n 1 false 0).bind fun r97_0 =>
  (f32_opt_ParseKey n r97_0.1 r97_0.2).bind fun r124_0 =>
  (f72_opt_Tagged_Seal 9 false false 3 0 0 0).bind fun r227_0 =>
  if ((r97_0.1 : Int) == 1) = true then
    if ((strOfNums r97_0.2).toList == (⟨#[0, 0, 0, 0, 0, 0, 0, 1]⟩ : ByteArray).toList) = true then
      if r124_0.1 = true then
        if ((r124_0.2.1 : Int) == 1) = true then
          if (!r124_0.2.2.1) = true then
            if ((r227_0.2.2.2.2.2 : Int) == 9) = true then
              (f26_opt_Data_Option n r227_0.1 r227_0.2.1 r227_0.2.2.1 r227_0.2.2.2.1 r227_0.2.2.2.2.1 r227_0.2.2.2.2.2).bind fun r229_0 =>
              some ((((r229_0.2.length : Nat) : Int) : Int) == 29)
            else
              some false
          else
            some false
        else
          some false
      else
        some false
    else
      some false
  else
    some false
theorem f19_broughamlaw08_alive_ok (n : Nat) (r : Bool) (h : f19_broughamlaw08_alive n = some r) : FnOK Go.Proofs.Try.prog 19 (f19_broughamlaw08_alive_in) (f19_broughamlaw08_alive_out r) := by
  unfold f19_broughamlaw08_alive at h
  refine At.fn (r := 0) Go.Proofs.Try.func19 rfl (by kernel_rfl) rfl rfl (by kernel_rfl) ?_
  show At Go.Proofs.Try.prog Go.Proofs.Try.f19 0 0 ⟨[], [], [], 0⟩ _
  refine At.step hm ht ⟨[], [], [], [], []⟩ 1 ⟨[], [], [], 0⟩ [] (by kernel_rfl) trivial ?_
  obtain ⟨r97_0, cr97_0, h⟩ := bindS h
  refine At.step hm ht ⟨[(1, .call [] [] (f21_opt_Key_Option_out r97_0))], [], [], [1], [3, 2]⟩ 2 ⟨[(1, .one (.c (.ptr 0 0)))], [(1, some ⟨5, 0⟩)], [(0, [.d (.int .u8 r97_0.1), .own 1 (.int .u8) r97_0.2])], 2⟩ [FnOK Go.Proofs.Try.prog 21 (f21_opt_Key_Option_in 1 false 0) (f21_opt_Key_Option_out r97_0), 0 + 2 ≤ 2] (by kernel_rfl) ⟨(f21_opt_Key_Option_ok n 1 false 0 r97_0 cr97_0), (by decide), trivial⟩ ?_
  obtain ⟨r124_0, cr124_0, h⟩ := bindS h
  refine At.step hm ht ⟨[(1, .call [] [] (f32_opt_ParseKey_out r124_0))], [], [], [1, 2, 3], [0, 7, 1]⟩ 3 ⟨[(1, .one (.c (.ptr 0 0))), (2, .one (.c (.ptr 1 0))), (3, .one (.c (.d (.bool r124_0.1))))], [(2, some ⟨5, 0⟩)], [(0, [.d (.int .u8 r97_0.1), .own 2 (.int .u8) r97_0.2]), (1, [.d (.int .u64 r124_0.2.1), .d (.bool r124_0.2.2.1), .d (.int .u64 r124_0.2.2.2)])], 3⟩ [FnOK Go.Proofs.Try.prog 32 (f32_opt_ParseKey_in r97_0.1 r97_0.2) (f32_opt_ParseKey_out r124_0), 0 + 3 ≤ 3] (by kernel_rfl) ⟨(f32_opt_ParseKey_ok n r97_0.1 r97_0.2 r124_0 cr124_0), (by decide), trivial⟩ ?_
  refine At.step hm ht ⟨[], [], [], [1, 2, 3, 4], [0, 1, 4, 2]⟩ 4 ⟨[(1, .one (.c (.ptr 0 0))), (2, .one (.c (.ptr 1 0))), (3, .one (.c (.d (.bool r124_0.1)))), (4, .one (.c (.ptr 2 0)))], [(3, some ⟨5, 0⟩)], [(0, [.d (.int .u8 r97_0.1), .own 3 (.int .u8) r97_0.2]), (1, [.d (.int .u64 r124_0.2.1), .d (.bool r124_0.2.2.1), .d (.int .u64 r124_0.2.2.2)]), (2, [.d (.bool false), .d (.bool false), .d (.int .u64 3), .d (.int .u64 0), .d (.int .u32 0), .d (.int .u64 0)])], 4⟩ [0 + 6 ≤ 6] (by kernel_rfl) ⟨(by decide), trivial⟩ ?_
  obtain ⟨r227_0, cr227_0, h⟩ := bindS h
  refine At.step hm ht ⟨[(1, .call [2] [] (f72_opt_Tagged_Seal_out r227_0))], [], [], [1, 2, 3, 4], [0, 1, 2, 3]⟩ 5 ⟨[(1, .one (.c (.ptr 0 0))), (2, .one (.c (.ptr 1 0))), (3, .one (.c (.d (.bool r124_0.1)))), (4, .one (.c (.ptr 2 0)))], [(3, some ⟨5, 0⟩)], [(0, [.d (.int .u8 r97_0.1), .own 3 (.int .u8) r97_0.2]), (1, [.d (.int .u64 r124_0.2.1), .d (.bool r124_0.2.2.1), .d (.int .u64 r124_0.2.2.2)]), (2, [.d (.bool r227_0.1), .d (.bool r227_0.2.1), .d (.int .u64 r227_0.2.2.1), .d (.int .u64 r227_0.2.2.2.1), .d (.int .u32 r227_0.2.2.2.2.1), .d (.int .u64 r227_0.2.2.2.2.2)])], 4⟩ [FnOK Go.Proofs.Try.prog 72 (f72_opt_Tagged_Seal_in 9 false false 3 0 0 0) (f72_opt_Tagged_Seal_out r227_0)] (by kernel_rfl) ⟨(f72_opt_Tagged_Seal_ok 9 false false 3 0 0 0 r227_0 cr227_0), trivial⟩ ?_
  rcases iteS h with ⟨b229_3, h⟩ | ⟨b229_3, h⟩
  · rcases iteS h with ⟨b229_9, h⟩ | ⟨b229_9, h⟩
    · rcases iteS h with ⟨b229_12, h⟩ | ⟨b229_12, h⟩
      · rcases iteS h with ⟨b229_17, h⟩ | ⟨b229_17, h⟩
        · rcases iteS h with ⟨b229_22, h⟩ | ⟨b229_22, h⟩
          · rcases iteS h with ⟨b229_28, h⟩ | ⟨b229_28, h⟩
            · obtain ⟨r229_0, cr229_0, h⟩ := bindS h
              have h := Option.some.inj h
              subst h
              exact At.fin hm ht ⟨[(3, .b true), (9, .b true), (12, .b true), (17, .b true), (22, .b true), (28, .b true), (30, .call [] [] (f26_opt_Data_Option_out r229_0))], [], [], [0], []⟩ [((r97_0.1 : Int) == 1) = true, ((strOfNums r97_0.2).toList == (⟨#[0, 0, 0, 0, 0, 0, 0, 1]⟩ : ByteArray).toList) = true, r124_0.1 = true, ((r124_0.2.1 : Int) == 1) = true, (!r124_0.2.2.1) = true, ((r227_0.2.2.2.2.2 : Int) == 9) = true, FnOK Go.Proofs.Try.prog 26 (f26_opt_Data_Option_in r227_0.1 r227_0.2.1 r227_0.2.2.1 r227_0.2.2.2.1 r227_0.2.2.2.2.1 r227_0.2.2.2.2.2) (f26_opt_Data_Option_out r229_0)] (by kernel_rfl) ⟨b229_3, b229_9, b229_12, b229_17, b229_22, b229_28, (f26_opt_Data_Option_ok n r227_0.1 r227_0.2.1 r227_0.2.2.1 r227_0.2.2.2.1 r227_0.2.2.2.2.1 r227_0.2.2.2.2.2 r229_0 cr229_0), trivial⟩
            · have h := Option.some.inj h
              subst h
              exact At.fin hm ht ⟨[(3, .b true), (9, .b true), (12, .b true), (17, .b true), (22, .b true), (28, .b false)], [], [], [0], []⟩ [((r97_0.1 : Int) == 1) = true, ((strOfNums r97_0.2).toList == (⟨#[0, 0, 0, 0, 0, 0, 0, 1]⟩ : ByteArray).toList) = true, r124_0.1 = true, ((r124_0.2.1 : Int) == 1) = true, (!r124_0.2.2.1) = true, ((r227_0.2.2.2.2.2 : Int) == 9) = false] (by kernel_rfl) ⟨b229_3, b229_9, b229_12, b229_17, b229_22, b229_28, trivial⟩
          · have h := Option.some.inj h
            subst h
            exact At.fin hm ht ⟨[(3, .b true), (9, .b true), (12, .b true), (17, .b true), (22, .b false)], [], [], [0], []⟩ [((r97_0.1 : Int) == 1) = true, ((strOfNums r97_0.2).toList == (⟨#[0, 0, 0, 0, 0, 0, 0, 1]⟩ : ByteArray).toList) = true, r124_0.1 = true, ((r124_0.2.1 : Int) == 1) = true, (!r124_0.2.2.1) = false] (by kernel_rfl) ⟨b229_3, b229_9, b229_12, b229_17, b229_22, trivial⟩
        · have h := Option.some.inj h
          subst h
          exact At.fin hm ht ⟨[(3, .b true), (9, .b true), (12, .b true), (17, .b false)], [], [], [0], []⟩ [((r97_0.1 : Int) == 1) = true, ((strOfNums r97_0.2).toList == (⟨#[0, 0, 0, 0, 0, 0, 0, 1]⟩ : ByteArray).toList) = true, r124_0.1 = true, ((r124_0.2.1 : Int) == 1) = false] (by kernel_rfl) ⟨b229_3, b229_9, b229_12, b229_17, trivial⟩
      · have h := Option.some.inj h
        subst h
        exact At.fin hm ht ⟨[(3, .b true), (9, .b true), (12, .b false)], [], [], [0], []⟩ [((r97_0.1 : Int) == 1) = true, ((strOfNums r97_0.2).toList == (⟨#[0, 0, 0, 0, 0, 0, 0, 1]⟩ : ByteArray).toList) = true, r124_0.1 = false] (by kernel_rfl) ⟨b229_3, b229_9, b229_12, trivial⟩
    · have h := Option.some.inj h
      subst h
      exact At.fin hm ht ⟨[(3, .b true), (9, .b false)], [], [], [0], []⟩ [((r97_0.1 : Int) == 1) = true, ((strOfNums r97_0.2).toList == (⟨#[0, 0, 0, 0, 0, 0, 0, 1]⟩ : ByteArray).toList) = false] (by kernel_rfl) ⟨b229_3, b229_9, trivial⟩
  · have h := Option.some.inj h
    subst h
    exact At.fin hm ht ⟨[(3, .b false)], [], [], [0], []⟩ [((r97_0.1 : Int) == 1) = false] (by kernel_rfl) ⟨b229_3, trivial⟩
/-! brougham/broughamlaw08.OptOne -/
def f3_broughamlaw08_OptOne_in (s_0 : Int) (s_1 : Int) (s_2 : Int) (s_3 : Int) (s_4 : Int) (s_5 : List (Int × List Int)) (s_6 : List Int) (kind : Int) : Inn := ⟨[.agg [.d (.int .u16 s_0), .d (.int .u16 s_1), .d (.int .u32 s_2), .d (.int .u32 s_3), .d (.int .u8 s_4), .d (.sl (.pair (.int .u8) (.slice (.int .u8))) s_5), .d (.sl (.int .u8) s_6)], .c (.d (.int .u8 kind))], [], [], 0⟩
def f3_broughamlaw08_OptOne_out (r : Bool) : Out := ⟨.one (.c (.d (.bool r))), [], [], 0⟩
def f3_broughamlaw08_OptOne (n : Nat) (s_0 : Int) (s_1 : Int) (s_2 : Int) (s_3 : Int) (s_4 : Int) (s_5 : List (Int × List Int)) (s_6 : List Int) (kind : Int) : Option (Bool) :=
  (f15_broughamlaw07_Great n s_0 s_1 s_2 s_3 s_4 s_5 s_6).bind fun r2_0 =>
  if r2_0 = true then
    some true
  else
    (f16_opt_One n s_0 s_1 s_2 s_3 s_4 s_5 s_6 kind).bind fun r17_0 =>
    (f17_broughamref08_One n s_0 s_1 s_2 s_3 s_4 s_5 s_6 kind).bind fun r60_0 =>
    if (r17_0.1 == r60_0.1) = true then
      (f18_broughamref07_SameOption r17_0.2.1 r17_0.2.2 r60_0.2.1 r60_0.2.2).bind fun r93_0 =>
      if r93_0 = true then
        (f19_broughamlaw08_alive n).bind fun r93_1 =>
        some r93_1
      else
        some false
    else
      some false
theorem f3_broughamlaw08_OptOne_ok (n : Nat) (s_0 : Int) (s_1 : Int) (s_2 : Int) (s_3 : Int) (s_4 : Int) (s_5 : List (Int × List Int)) (s_6 : List Int) (kind : Int) (r : Bool) (h : f3_broughamlaw08_OptOne n s_0 s_1 s_2 s_3 s_4 s_5 s_6 kind = some r) : FnOK Go.Proofs.Try.prog 3 (f3_broughamlaw08_OptOne_in s_0 s_1 s_2 s_3 s_4 s_5 s_6 kind) (f3_broughamlaw08_OptOne_out r) := by
  unfold f3_broughamlaw08_OptOne at h
  refine At.fn (r := 0) Go.Proofs.Try.func3 rfl (by kernel_rfl) rfl rfl (by kernel_rfl) ?_
  show At Go.Proofs.Try.prog Go.Proofs.Try.f3 0 0 ⟨[(0, .one (.agg [.d (.int .u16 s_0), .d (.int .u16 s_1), .d (.int .u32 s_2), .d (.int .u32 s_3), .d (.int .u8 s_4), .d (.sl (.pair (.int .u8) (.slice (.int .u8))) s_5), .d (.sl (.int .u8) s_6)])), (1, .one (.c (.d (.int .u8 kind))))], [], [], 0⟩ _
  refine At.step hm ht ⟨[], [], [], [1, 2], [0]⟩ 1 ⟨[(1, .one (.c (.d (.int .u8 kind)))), (2, .one (.c (.ptr 0 0)))], [], [(0, [.d (.int .u16 s_0), .d (.int .u16 s_1), .d (.int .u32 s_2), .d (.int .u32 s_3), .d (.int .u8 s_4), .d (.sl (.pair (.int .u8) (.slice (.int .u8))) s_5), .d (.sl (.int .u8) s_6)])], 1⟩ [] (by kernel_rfl) trivial ?_
  obtain ⟨r2_0, cr2_0, h⟩ := bindS h
  rcases iteS h with ⟨b2_e0, h⟩ | ⟨b2_e0, h⟩
  · refine At.step hm ht ⟨[(1, .call [] [] (f15_broughamlaw07_Great_out r2_0))], [true], [], [], []⟩ 2 ⟨[], [], [], 0⟩ [FnOK Go.Proofs.Try.prog 15 (f15_broughamlaw07_Great_in s_0 s_1 s_2 s_3 s_4 s_5 s_6) (f15_broughamlaw07_Great_out r2_0), r2_0 = true] (by kernel_rfl) ⟨(f15_broughamlaw07_Great_ok n s_0 s_1 s_2 s_3 s_4 s_5 s_6 r2_0 cr2_0), b2_e0, trivial⟩ ?_
    have h := Option.some.inj h
    subst h
    exact At.fin hm ht ⟨[], [], [], [4], []⟩ [] (by kernel_rfl) trivial
  · refine At.step hm ht ⟨[(1, .call [] [] (f15_broughamlaw07_Great_out r2_0))], [false], [], [1, 2], [0]⟩ 3 ⟨[(1, .one (.c (.d (.int .u8 kind)))), (2, .one (.c (.ptr 0 0)))], [], [(0, [.d (.int .u16 s_0), .d (.int .u16 s_1), .d (.int .u32 s_2), .d (.int .u32 s_3), .d (.int .u8 s_4), .d (.sl (.pair (.int .u8) (.slice (.int .u8))) s_5), .d (.sl (.int .u8) s_6)])], 1⟩ [FnOK Go.Proofs.Try.prog 15 (f15_broughamlaw07_Great_in s_0 s_1 s_2 s_3 s_4 s_5 s_6) (f15_broughamlaw07_Great_out r2_0), r2_0 = false] (by kernel_rfl) ⟨(f15_broughamlaw07_Great_ok n s_0 s_1 s_2 s_3 s_4 s_5 s_6 r2_0 cr2_0), b2_e0, trivial⟩ ?_
    obtain ⟨r17_0, cr17_0, h⟩ := bindS h
    refine At.step hm ht ⟨[(2, .call [] [] (f16_opt_One_out r17_0))], [], [], [1, 2, 5, 6], [0, 7]⟩ 4 ⟨[(1, .one (.c (.d (.int .u8 kind)))), (2, .one (.c (.ptr 0 0))), (5, .one (.c (.ptr 1 0))), (6, .one (.c (.d (.bool r17_0.1))))], [], [(0, [.d (.int .u16 s_0), .d (.int .u16 s_1), .d (.int .u32 s_2), .d (.int .u32 s_3), .d (.int .u8 s_4), .d (.sl (.pair (.int .u8) (.slice (.int .u8))) s_5), .d (.sl (.int .u8) s_6)]), (1, [.d (.int .u8 r17_0.2.1), .d (.sl (.int .u8) r17_0.2.2)])], 2⟩ [FnOK Go.Proofs.Try.prog 16 (f16_opt_One_in s_0 s_1 s_2 s_3 s_4 s_5 s_6 kind) (f16_opt_One_out r17_0), 0 + 2 ≤ 2] (by kernel_rfl) ⟨(f16_opt_One_ok n s_0 s_1 s_2 s_3 s_4 s_5 s_6 kind r17_0 cr17_0), (by decide), trivial⟩ ?_
    obtain ⟨r60_0, cr60_0, h⟩ := bindS h
    refine At.step hm ht ⟨[(2, .call [] [] (f17_broughamref08_One_out r60_0))], [], [], [5, 6, 7, 8], [1, 8]⟩ 5 ⟨[(5, .one (.c (.ptr 0 0))), (6, .one (.c (.d (.bool r17_0.1)))), (7, .one (.c (.ptr 1 0))), (8, .one (.c (.d (.bool r60_0.1))))], [], [(0, [.d (.int .u8 r17_0.2.1), .d (.sl (.int .u8) r17_0.2.2)]), (1, [.d (.int .u8 r60_0.2.1), .d (.sl (.int .u8) r60_0.2.2)])], 2⟩ [FnOK Go.Proofs.Try.prog 17 (f17_broughamref08_One_in s_0 s_1 s_2 s_3 s_4 s_5 s_6 kind) (f17_broughamref08_One_out r60_0), 0 + 2 ≤ 2] (by kernel_rfl) ⟨(f17_broughamref08_One_ok n s_0 s_1 s_2 s_3 s_4 s_5 s_6 kind r60_0 cr60_0), (by decide), trivial⟩ ?_
    rcases iteS h with ⟨b93_3, h⟩ | ⟨b93_3, h⟩
    · obtain ⟨r93_0, cr93_0, h⟩ := bindS h
      rcases iteS h with ⟨b93_8, h⟩ | ⟨b93_8, h⟩
      · obtain ⟨r93_1, cr93_1, h⟩ := bindS h
        have h := Option.some.inj h
        subst h
        exact At.fin hm ht ⟨[(3, .b true), (6, .call [] [] (f18_broughamref07_SameOption_out r93_0)), (8, .b true), (9, .call [] [] (f19_broughamlaw08_alive_out r93_1))], [], [], [4], []⟩ [(r17_0.1 == r60_0.1) = true, FnOK Go.Proofs.Try.prog 18 (f18_broughamref07_SameOption_in r17_0.2.1 r17_0.2.2 r60_0.2.1 r60_0.2.2) (f18_broughamref07_SameOption_out r93_0), r93_0 = true, FnOK Go.Proofs.Try.prog 19 (f19_broughamlaw08_alive_in) (f19_broughamlaw08_alive_out r93_1)] (by kernel_rfl) ⟨b93_3, (f18_broughamref07_SameOption_ok r17_0.2.1 r17_0.2.2 r60_0.2.1 r60_0.2.2 r93_0 cr93_0), b93_8, (f19_broughamlaw08_alive_ok n r93_1 cr93_1), trivial⟩
      · have h := Option.some.inj h
        subst h
        exact At.fin hm ht ⟨[(3, .b true), (6, .call [] [] (f18_broughamref07_SameOption_out r93_0)), (8, .b false)], [], [], [4], []⟩ [(r17_0.1 == r60_0.1) = true, FnOK Go.Proofs.Try.prog 18 (f18_broughamref07_SameOption_in r17_0.2.1 r17_0.2.2 r60_0.2.1 r60_0.2.2) (f18_broughamref07_SameOption_out r93_0), r93_0 = false] (by kernel_rfl) ⟨b93_3, (f18_broughamref07_SameOption_ok r17_0.2.1 r17_0.2.2 r60_0.2.1 r60_0.2.2 r93_0 cr93_0), b93_8, trivial⟩
    · have h := Option.some.inj h
      subst h
      exact At.fin hm ht ⟨[(3, .b false)], [], [], [4], []⟩ [(r17_0.1 == r60_0.1) = false] (by kernel_rfl) ⟨b93_3, trivial⟩
/-! brougham/broughamref02.Put -/
def f75_broughamref02_Put_in (n_ : Int) (bytes : Int) : Inn := ⟨[.c (.d (.sl .unit [])), .c (.d (.int .u64 n_)), .c (.d (.int .i64 bytes))], [], [], 0⟩
def f75_broughamref02_Put_out (r : List Int) : Out := ⟨.one (.c (.own 0 (.int .u8) r)), [(0, ⟨5, 0⟩)], [], 1⟩
def f75_broughamref02_Put : Nat → Int → Int → Option (List Int)
  | 0, _, _ => none
  | n + 1, n_, bytes =>
    if (decide ((bytes : Int) < 1)) = true then
      some []
    else
      if (decide ((bytes : Int) > 8)) = true then
        some []
      else
        (f75_broughamref02_Put n (IntKind.wrap .u64 (Int.tdiv n_ 256)) (IntKind.wrap .i64 (bytes - 1))).bind fun r268_0 =>
        if r268_0.length + [(IntKind.wrap .u8 (Int.tmod n_ 256))].length ≤ maxLen ∧ (r268_0.length + [(IntKind.wrap .u8 (Int.tmod n_ 256))].length) * 1 ≤ 140737488355328 then
        some (r268_0 ++ [(IntKind.wrap .u8 (Int.tmod n_ 256))])
        else none
theorem f75_broughamref02_Put_ok (n : Nat) : ∀ (n_ : Int) (bytes : Int) (r : List Int) (h : f75_broughamref02_Put n n_ bytes = some r), FnOK Go.Proofs.Try.prog 75 (f75_broughamref02_Put_in n_ bytes) (f75_broughamref02_Put_out r) := by
  induction n with
  | zero => intro n_ bytes r h; rw [f75_broughamref02_Put] at h; cases h
  | succ n ih =>
    intro n_ bytes r h
    rw [f75_broughamref02_Put] at h
    refine At.fn (r := 0) Go.Proofs.Try.func75 rfl (by kernel_rfl) rfl rfl (by kernel_rfl) ?_
    show At Go.Proofs.Try.prog Go.Proofs.Try.f75 0 0 ⟨[(0, .one (.c (.d (.sl .unit [])))), (1, .one (.c (.d (.int .u64 n_)))), (2, .one (.c (.d (.int .i64 bytes))))], [], [], 0⟩ _
    refine At.step hm ht ⟨[], [], [], [0, 1, 2], []⟩ 1 ⟨[(0, .one (.c (.d (.sl .unit [])))), (1, .one (.c (.d (.int .u64 n_)))), (2, .one (.c (.d (.int .i64 bytes))))], [], [], 0⟩ [] (by kernel_rfl) trivial ?_
    rcases iteS h with ⟨b265_2, h⟩ | ⟨b265_2, h⟩
    · refine At.step hm ht ⟨[(2, .b true)], [true], [], [0], []⟩ 2 ⟨[(0, .one (.c (.d (.sl .unit []))))], [], [], 0⟩ [(decide ((bytes : Int) < 1)) = true, true = true] (by kernel_rfl) ⟨b265_2, rfl, trivial⟩ ?_
      have h := Option.some.inj h
      subst h
      exact At.fin hm ht ⟨[], [], [.nil false 6 0 (.int .u8) (some 5)], [6], [2]⟩ [] (by kernel_rfl) trivial
    · rcases iteS h with ⟨b265_e0, h⟩ | ⟨b265_e0, h⟩
      · refine At.step hm ht ⟨[(2, .b false)], [true], [], [0], []⟩ 2 ⟨[(0, .one (.c (.d (.sl .unit []))))], [], [], 0⟩ [(decide ((bytes : Int) < 1)) = false, (decide ((bytes : Int) > 8)) = true] (by kernel_rfl) ⟨b265_2, b265_e0, trivial⟩ ?_
        have h := Option.some.inj h
        subst h
        exact At.fin hm ht ⟨[], [], [.nil false 6 0 (.int .u8) (some 5)], [6], [2]⟩ [] (by kernel_rfl) trivial
      · refine At.step hm ht ⟨[(2, .b false)], [false], [], [0, 1, 2], []⟩ 3 ⟨[(0, .one (.c (.d (.sl .unit [])))), (1, .one (.c (.d (.int .u64 n_)))), (2, .one (.c (.d (.int .i64 bytes))))], [], [], 0⟩ [(decide ((bytes : Int) < 1)) = false, (decide ((bytes : Int) > 8)) = false] (by kernel_rfl) ⟨b265_2, b265_e0, trivial⟩ ?_
        obtain ⟨r268_0, cr268_0, h⟩ := bindS h
        refine At.step hm ht ⟨[(5, .call [] [] (f75_broughamref02_Put_out r268_0))], [], [], [0, 1], [5]⟩ 4 ⟨[(0, .one (.c (.own 0 (.int .u8) r268_0))), (1, .one (.c (.d (.int .u64 n_))))], [(0, some ⟨5, 0⟩)], [], 1⟩ [(256 : Int) ≠ 0, FnOK Go.Proofs.Try.prog 75 (f75_broughamref02_Put_in (IntKind.wrap .u64 (Int.tdiv n_ 256)) (IntKind.wrap .i64 (bytes - 1))) (f75_broughamref02_Put_out r268_0)] (by kernel_rfl) ⟨(by decide), (ih (IntKind.wrap .u64 (Int.tdiv n_ 256)) (IntKind.wrap .i64 (bytes - 1)) r268_0 cr268_0), trivial⟩ ?_
        obtain ⟨g269_0, h⟩ := ifS h
        have h := Option.some.inj h
        subst h
        exact At.fin hm ht ⟨[], [], [], [6], [6]⟩ [(256 : Int) ≠ 0, r268_0.length + [(IntKind.wrap .u8 (Int.tmod n_ 256))].length ≤ maxLen ∧ (r268_0.length + [(IntKind.wrap .u8 (Int.tmod n_ 256))].length) * 1 ≤ 140737488355328] (by kernel_rfl) ⟨(by decide), g269_0, trivial⟩
/-! brougham/broughamref02.Put -/
def f75_broughamref02_Put_v2_in (b : List Int) (n_ : Int) (bytes : Int) : Inn := ⟨[.c (.own 0 (.int .u8) b), .c (.d (.int .u64 n_)), .c (.d (.int .i64 bytes))], [(0, ⟨5, 0⟩)], [], 1⟩
def f75_broughamref02_Put_v2_out (r : List Int) : Out := ⟨.one (.c (.own 1 (.int .u8) r)), [(1, ⟨5, 0⟩)], [], 2⟩
def f75_broughamref02_Put_v2 : Nat → (List Int) → Int → Int → Option (List Int)
  | 0, _, _, _ => none
  | n + 1, b, n_, bytes =>
    if (decide ((bytes : Int) < 1)) = true then
      some b
    else
      if (decide ((bytes : Int) > 8)) = true then
        some b
      else
        (f75_broughamref02_Put_v2 n b (IntKind.wrap .u64 (Int.tdiv n_ 256)) (IntKind.wrap .i64 (bytes - 1))).bind fun r282_0 =>
        if r282_0.length + [(IntKind.wrap .u8 (Int.tmod n_ 256))].length ≤ maxLen ∧ (r282_0.length + [(IntKind.wrap .u8 (Int.tmod n_ 256))].length) * 1 ≤ 140737488355328 then
        some (r282_0 ++ [(IntKind.wrap .u8 (Int.tmod n_ 256))])
        else none
theorem f75_broughamref02_Put_v2_ok (n : Nat) : ∀ (b : List Int) (n_ : Int) (bytes : Int) (r : List Int) (h : f75_broughamref02_Put_v2 n b n_ bytes = some r), FnOK Go.Proofs.Try.prog 75 (f75_broughamref02_Put_v2_in b n_ bytes) (f75_broughamref02_Put_v2_out r) := by
  induction n with
  | zero => intro b n_ bytes r h; rw [f75_broughamref02_Put_v2] at h; cases h
  | succ n ih =>
    intro b n_ bytes r h
    rw [f75_broughamref02_Put_v2] at h
    refine At.fn (r := 0) Go.Proofs.Try.func75 rfl (by kernel_rfl) rfl rfl (by kernel_rfl) ?_
    show At Go.Proofs.Try.prog Go.Proofs.Try.f75 1 0 ⟨[(0, .one (.c (.own 0 (.int .u8) b))), (1, .one (.c (.d (.int .u64 n_)))), (2, .one (.c (.d (.int .i64 bytes))))], [(0, some ⟨5, 0⟩)], [], 1⟩ _
    refine At.step hm ht ⟨[], [], [], [0, 1, 2], [0]⟩ 1 ⟨[(0, .one (.c (.own 0 (.int .u8) b))), (1, .one (.c (.d (.int .u64 n_)))), (2, .one (.c (.d (.int .i64 bytes))))], [(0, some ⟨5, 0⟩)], [], 1⟩ [] (by kernel_rfl) trivial ?_
    rcases iteS h with ⟨b279_2, h⟩ | ⟨b279_2, h⟩
    · refine At.step hm ht ⟨[(2, .b true)], [true], [], [0], [0]⟩ 2 ⟨[(0, .one (.c (.own 0 (.int .u8) b)))], [(0, some ⟨5, 0⟩)], [], 1⟩ [(decide ((bytes : Int) < 1)) = true, true = true] (by kernel_rfl) ⟨b279_2, rfl, trivial⟩ ?_
      have h := Option.some.inj h
      subst h
      exact At.fin hm ht ⟨[], [], [.mv 0 6 0], [6], [0, 3]⟩ [] (by kernel_rfl) trivial
    · rcases iteS h with ⟨b279_e0, h⟩ | ⟨b279_e0, h⟩
      · refine At.step hm ht ⟨[(2, .b false)], [true], [], [0], [0]⟩ 2 ⟨[(0, .one (.c (.own 0 (.int .u8) b)))], [(0, some ⟨5, 0⟩)], [], 1⟩ [(decide ((bytes : Int) < 1)) = false, (decide ((bytes : Int) > 8)) = true] (by kernel_rfl) ⟨b279_2, b279_e0, trivial⟩ ?_
        have h := Option.some.inj h
        subst h
        exact At.fin hm ht ⟨[], [], [.mv 0 6 0], [6], [0, 3]⟩ [] (by kernel_rfl) trivial
      · refine At.step hm ht ⟨[(2, .b false)], [false], [], [0, 1, 2], [0]⟩ 3 ⟨[(0, .one (.c (.own 0 (.int .u8) b))), (1, .one (.c (.d (.int .u64 n_)))), (2, .one (.c (.d (.int .i64 bytes))))], [(0, some ⟨5, 0⟩)], [], 1⟩ [(decide ((bytes : Int) < 1)) = false, (decide ((bytes : Int) > 8)) = false] (by kernel_rfl) ⟨b279_2, b279_e0, trivial⟩ ?_
        obtain ⟨r282_0, cr282_0, h⟩ := bindS h
        refine At.step hm ht ⟨[(5, .call [0] [] (f75_broughamref02_Put_v2_out r282_0))], [], [], [0, 1], [0, 7]⟩ 4 ⟨[(0, .one (.c (.own 1 (.int .u8) r282_0))), (1, .one (.c (.d (.int .u64 n_))))], [(1, some ⟨5, 0⟩)], [], 2⟩ [(256 : Int) ≠ 0, FnOK Go.Proofs.Try.prog 75 (f75_broughamref02_Put_v2_in b (IntKind.wrap .u64 (Int.tdiv n_ 256)) (IntKind.wrap .i64 (bytes - 1))) (f75_broughamref02_Put_v2_out r282_0)] (by kernel_rfl) ⟨(by decide), (ih b (IntKind.wrap .u64 (Int.tdiv n_ 256)) (IntKind.wrap .i64 (bytes - 1)) r282_0 cr282_0), trivial⟩ ?_
        obtain ⟨g283_0, h⟩ := ifS h
        have h := Option.some.inj h
        subst h
        exact At.fin hm ht ⟨[], [], [], [6], [0, 7]⟩ [(256 : Int) ≠ 0, r282_0.length + [(IntKind.wrap .u8 (Int.tmod n_ 256))].length ≤ maxLen ∧ (r282_0.length + [(IntKind.wrap .u8 (Int.tmod n_ 256))].length) * 1 ≤ 140737488355328] (by kernel_rfl) ⟨(by decide), g283_0, trivial⟩
/-! brougham/broughamref08.Key -/
def f22_broughamref08_Key_in (key : Int) (tag : Int) (answer : Bool) : Inn := ⟨[.c (.d (.int .u64 key)), .c (.d (.int .u64 tag)), .c (.d (.bool answer))], [], [], 0⟩
def f22_broughamref08_Key_out (r : List Int) : Out := ⟨.one (.c (.own 0 (.int .u8) r)), [(0, ⟨5, 0⟩)], [], 1⟩
def f22_broughamref08_Key (n : Nat) (key : Int) (tag : Int) (answer : Bool) : Option (List Int) :=
  (f75_broughamref02_Put n key 8).bind fun r251_0 =>
  if answer = true then
    (f75_broughamref02_Put_v2 n r251_0 tag 8).bind fun r271_0 =>
    some r271_0
  else
    some r251_0
theorem f22_broughamref08_Key_ok (n : Nat) (key : Int) (tag : Int) (answer : Bool) (r : List Int) (h : f22_broughamref08_Key n key tag answer = some r) : FnOK Go.Proofs.Try.prog 22 (f22_broughamref08_Key_in key tag answer) (f22_broughamref08_Key_out r) := by
  unfold f22_broughamref08_Key at h
  refine At.fn (r := 0) Go.Proofs.Try.func22 rfl (by kernel_rfl) rfl rfl (by kernel_rfl) ?_
  show At Go.Proofs.Try.prog Go.Proofs.Try.f22 0 0 ⟨[(0, .one (.c (.d (.int .u64 key)))), (1, .one (.c (.d (.int .u64 tag)))), (2, .one (.c (.d (.bool answer))))], [], [], 0⟩ _
  refine At.step hm ht ⟨[], [], [], [0, 1, 2], []⟩ 1 ⟨[(0, .one (.c (.d (.int .u64 key)))), (1, .one (.c (.d (.int .u64 tag)))), (2, .one (.c (.d (.bool answer))))], [], [], 0⟩ [] (by kernel_rfl) trivial ?_
  obtain ⟨r251_0, cr251_0, h⟩ := bindS h
  refine At.step hm ht ⟨[(1, .call [] [] (f75_broughamref02_Put_out r251_0))], [], [], [1, 2, 7], [1]⟩ 2 ⟨[(1, .one (.c (.d (.int .u64 tag)))), (2, .one (.c (.d (.bool answer)))), (7, .one (.c (.own 0 (.int .u8) r251_0)))], [(0, some ⟨5, 0⟩)], [], 1⟩ [FnOK Go.Proofs.Try.prog 75 (f75_broughamref02_Put_in key 8) (f75_broughamref02_Put_out r251_0)] (by kernel_rfl) ⟨(f75_broughamref02_Put_ok n key 8 r251_0 cr251_0), trivial⟩ ?_
  rcases iteS h with ⟨b270_e0, h⟩ | ⟨b270_e0, h⟩
  · refine At.step hm ht ⟨[], [true], [], [1, 7], [0]⟩ 3 ⟨[(1, .one (.c (.d (.int .u64 tag)))), (7, .one (.c (.own 0 (.int .u8) r251_0)))], [(0, some ⟨5, 0⟩)], [], 1⟩ [answer = true] (by kernel_rfl) ⟨b270_e0, trivial⟩ ?_
    obtain ⟨r271_0, cr271_0, h⟩ := bindS h
    refine At.step hm ht ⟨[(2, .call [0] [] (f75_broughamref02_Put_v2_out r271_0))], [], [], [7], [4]⟩ 4 ⟨[(7, .one (.c (.own 0 (.int .u8) r271_0)))], [(0, some ⟨5, 0⟩)], [], 1⟩ [FnOK Go.Proofs.Try.prog 75 (f75_broughamref02_Put_v2_in r251_0 tag 8) (f75_broughamref02_Put_v2_out r271_0)] (by kernel_rfl) ⟨(f75_broughamref02_Put_v2_ok n r251_0 tag 8 r271_0 cr271_0), trivial⟩ ?_
    have h := Option.some.inj h
    subst h
    exact At.fin hm ht ⟨[], [], [], [6], [0]⟩ [] (by kernel_rfl) trivial
  · refine At.step hm ht ⟨[], [false], [], [7], [0]⟩ 4 ⟨[(7, .one (.c (.own 0 (.int .u8) r251_0)))], [(0, some ⟨5, 0⟩)], [], 1⟩ [answer = false] (by kernel_rfl) ⟨b270_e0, trivial⟩ ?_
    have h := Option.some.inj h
    subst h
    exact At.fin hm ht ⟨[], [], [], [6], [0]⟩ [] (by kernel_rfl) trivial
/-! brougham/broughamlaw08.is -/
def f20_broughamlaw08_is_in (o__0 : Int) (o__1 : List Int) (kind : Int) (body : List Int) : Inn := ⟨[.agg [.d (.int .u8 o__0), .d (.sl (.int .u8) o__1)], .c (.d (.int .u8 kind)), .c (.d (.sl (.int .u8) body))], [], [], 0⟩
def f20_broughamlaw08_is_out (r : Bool) : Out := ⟨.one (.c (.d (.bool r))), [], [], 0⟩
def f20_broughamlaw08_is (o__0 : Int) (o__1 : List Int) (kind : Int) (body : List Int) : Option (Bool) :=
  if ((o__0 : Int) == kind) = true then
    some ((strOfNums o__1).toList == (strOfNums body).toList)
  else
    some false
theorem f20_broughamlaw08_is_ok (o__0 : Int) (o__1 : List Int) (kind : Int) (body : List Int) (r : Bool) (h : f20_broughamlaw08_is o__0 o__1 kind body = some r) : FnOK Go.Proofs.Try.prog 20 (f20_broughamlaw08_is_in o__0 o__1 kind body) (f20_broughamlaw08_is_out r) := by
  unfold f20_broughamlaw08_is at h
  refine At.fn (r := 0) Go.Proofs.Try.func20 rfl (by kernel_rfl) rfl rfl (by kernel_rfl) ?_
  show At Go.Proofs.Try.prog Go.Proofs.Try.f20 0 0 ⟨[(0, .one (.agg [.d (.int .u8 o__0), .d (.sl (.int .u8) o__1)])), (1, .one (.c (.d (.int .u8 kind)))), (2, .one (.c (.d (.sl (.int .u8) body))))], [], [], 0⟩ _
  refine At.step hm ht ⟨[], [], [], [1, 2, 3], [0]⟩ 1 ⟨[(1, .one (.c (.d (.int .u8 kind)))), (2, .one (.c (.d (.sl (.int .u8) body)))), (3, .one (.c (.ptr 0 0)))], [], [(0, [.d (.int .u8 o__0), .d (.sl (.int .u8) o__1)])], 1⟩ [] (by kernel_rfl) trivial ?_
  rcases iteS h with ⟨b287_4, h⟩ | ⟨b287_4, h⟩
  · have h := Option.some.inj h
    subst h
    exact At.fin hm ht ⟨[(4, .b true)], [], [], [6], []⟩ [((o__0 : Int) == kind) = true] (by kernel_rfl) ⟨b287_4, trivial⟩
  · have h := Option.some.inj h
    subst h
    exact At.fin hm ht ⟨[(4, .b false)], [], [], [6], []⟩ [((o__0 : Int) == kind) = false] (by kernel_rfl) ⟨b287_4, trivial⟩
/-! brougham/pack.Flag -/
def f78_pack_Flag_in (is_ : Bool) : Inn := ⟨[.c (.d (.bool is_))], [], [], 0⟩
def f78_pack_Flag_out (r : Int × Int) : Out := ⟨.one (.agg [.d (.int .i64 r.1), .d (.int .u64 r.2)]), [], [(0, [.d (.int .i64 r.1), .d (.int .u64 r.2)])], 1⟩
def f78_pack_Flag (is_ : Bool) : Option (Int × Int) :=
  if is_ = true then
    (f77_pack_B 1).bind fun r292_0 =>
    some (r292_0.1, r292_0.2)
  else
    (f77_pack_B 0).bind fun r293_0 =>
    some (r293_0.1, r293_0.2)
theorem f78_pack_Flag_ok (is_ : Bool) (r : Int × Int) (h : f78_pack_Flag is_ = some r) : FnOK Go.Proofs.Try.prog 78 (f78_pack_Flag_in is_) (f78_pack_Flag_out r) := by
  unfold f78_pack_Flag at h
  refine At.fn (r := 0) Go.Proofs.Try.func78 rfl (by kernel_rfl) rfl rfl (by kernel_rfl) ?_
  show At Go.Proofs.Try.prog Go.Proofs.Try.f78 0 0 ⟨[(0, .one (.c (.d (.bool is_))))], [], [], 0⟩ _
  refine At.step hm ht ⟨[], [], [], [0, 2], [0]⟩ 1 ⟨[(0, .one (.c (.d (.bool is_)))), (2, .one (.c (.ptr 0 0)))], [], [(0, [.d (.int .i64 0), .d (.int .u64 0)])], 1⟩ [] (by kernel_rfl) trivial ?_
  rcases iteS h with ⟨b291_e0, h⟩ | ⟨b291_e0, h⟩
  · refine At.step hm ht ⟨[], [true], [], [2], [0]⟩ 2 ⟨[(2, .one (.c (.ptr 0 0)))], [], [(0, [.d (.int .i64 0), .d (.int .u64 0)])], 1⟩ [is_ = true] (by kernel_rfl) ⟨b291_e0, trivial⟩ ?_
    obtain ⟨r292_0, cr292_0, h⟩ := bindS h
    have h := Option.some.inj h
    subst h
    exact At.fin hm ht ⟨[(0, .call [] [] (f77_pack_B_out r292_0))], [], [], [2], [0]⟩ [FnOK Go.Proofs.Try.prog 77 (f77_pack_B_in 1) (f77_pack_B_out r292_0), 0 + 2 ≤ 2] (by kernel_rfl) ⟨(f77_pack_B_ok 1 r292_0 cr292_0), (by decide), trivial⟩
  · refine At.step hm ht ⟨[], [false], [], [2], [0]⟩ 3 ⟨[(2, .one (.c (.ptr 0 0)))], [], [(0, [.d (.int .i64 0), .d (.int .u64 0)])], 1⟩ [is_ = false] (by kernel_rfl) ⟨b291_e0, trivial⟩ ?_
    obtain ⟨r293_0, cr293_0, h⟩ := bindS h
    have h := Option.some.inj h
    subst h
    exact At.fin hm ht ⟨[(0, .call [] [] (f77_pack_B_out r293_0))], [], [], [2], [0]⟩ [FnOK Go.Proofs.Try.prog 77 (f77_pack_B_in 0) (f77_pack_B_out r293_0), 0 + 2 ≤ 2] (by kernel_rfl) ⟨(f77_pack_B_ok 0 r293_0 cr293_0), (by decide), trivial⟩
/-! (brougham/opt.Join).Option -/
def f23_opt_Join_Option_in (j_0 : Int) (j_1 : Int) (j_2 : Int) (j_3 : Bool) (j_4 : Bool) (j_5 : Int) : Inn := ⟨[.agg [.d (.int .u32 j_0), .d (.int .u32 j_1), .d (.int .u8 j_2), .d (.bool j_3), .d (.bool j_4), .d (.int .u64 j_5)]], [], [], 0⟩
def f23_opt_Join_Option_out (r : Int × List Int) : Out := ⟨.one (.agg [.d (.int .u8 r.1), .own 1 (.int .u8) r.2]), [(1, ⟨5, 0⟩)], [(0, [.d (.int .u8 r.1), .own 1 (.int .u8) r.2])], 2⟩
def f23_opt_Join_Option (n : Nat) (j_0 : Int) (j_1 : Int) (j_2 : Int) (j_3 : Bool) (j_4 : Bool) (j_5 : Int) : Option (Int × List Int) :=
  (f76_pack_W j_0).bind fun r289_0 =>
  (f76_pack_W j_1).bind fun r289_1 =>
  (f77_pack_B j_2).bind fun r289_2 =>
  (f78_pack_Flag j_3).bind fun r289_3 =>
  (f73_pack_Put n [] [r289_0, r289_1, r289_2, r289_3]).bind fun r289_4 =>
  if j_4 = true then
    (f74_pack_Q j_5).bind fun r295_0 =>
    (f73_pack_Put n r289_4 [r295_0]).bind fun r295_1 =>
    some (2, r295_1)
  else
    some (2, r289_4)
theorem f23_opt_Join_Option_ok (n : Nat) (j_0 : Int) (j_1 : Int) (j_2 : Int) (j_3 : Bool) (j_4 : Bool) (j_5 : Int) (r : Int × List Int) (h : f23_opt_Join_Option n j_0 j_1 j_2 j_3 j_4 j_5 = some r) : FnOK Go.Proofs.Try.prog 23 (f23_opt_Join_Option_in j_0 j_1 j_2 j_3 j_4 j_5) (f23_opt_Join_Option_out r) := by
  unfold f23_opt_Join_Option at h
  refine At.fn (r := 0) Go.Proofs.Try.func23 rfl (by kernel_rfl) rfl rfl (by kernel_rfl) ?_
  show At Go.Proofs.Try.prog Go.Proofs.Try.f23 0 0 ⟨[(0, .one (.agg [.d (.int .u32 j_0), .d (.int .u32 j_1), .d (.int .u8 j_2), .d (.bool j_3), .d (.bool j_4), .d (.int .u64 j_5)]))], [], [], 0⟩ _
  refine At.step hm ht ⟨[], [], [], [1, 2], [0, 1]⟩ 1 ⟨[(1, .one (.c (.ptr 0 0))), (2, .one (.c (.ptr 1 0)))], [], [(0, [.d (.int .u32 j_0), .d (.int .u32 j_1), .d (.int .u8 j_2), .d (.bool j_3), .d (.bool j_4), .d (.int .u64 j_5)]), (1, [.d (.int .u8 0), .d (.sl .unit [])])], 2⟩ [] (by kernel_rfl) trivial ?_
  obtain ⟨r289_0, cr289_0, h⟩ := bindS h
  obtain ⟨r289_1, cr289_1, h⟩ := bindS h
  obtain ⟨r289_2, cr289_2, h⟩ := bindS h
  obtain ⟨r289_3, cr289_3, h⟩ := bindS h
  obtain ⟨r289_4, cr289_4, h⟩ := bindS h
  refine At.step hm ht ⟨[(2, .call [] [] (f76_pack_W_out r289_0)), (5, .call [] [] (f76_pack_W_out r289_1)), (8, .call [] [] (f77_pack_B_out r289_2)), (11, .call [] [] (f78_pack_Flag_out r289_3)), (13, .call [] [(0, 0, (.int .u8))] (f73_pack_Put_out r289_4))], [], [], [1, 2, 3], [0, 1, 15]⟩ 2 ⟨[(1, .one (.c (.ptr 0 0))), (2, .one (.c (.ptr 1 0))), (3, .one (.c (.own 2 (.int .u8) r289_4)))], [(2, some ⟨5, 0⟩)], [(0, [.d (.int .u32 j_0), .d (.int .u32 j_1), .d (.int .u8 j_2), .d (.bool j_3), .d (.bool j_4), .d (.int .u64 j_5)]), (1, [.d (.int .u8 0), .d (.sl .unit [])])], 3⟩ [FnOK Go.Proofs.Try.prog 76 (f76_pack_W_in j_0) (f76_pack_W_out r289_0), FnOK Go.Proofs.Try.prog 76 (f76_pack_W_in j_1) (f76_pack_W_out r289_1), FnOK Go.Proofs.Try.prog 77 (f77_pack_B_in j_2) (f77_pack_B_out r289_2), FnOK Go.Proofs.Try.prog 78 (f78_pack_Flag_in j_3) (f78_pack_Flag_out r289_3), FnOK Go.Proofs.Try.prog 73 (f73_pack_Put_in [] [r289_0, r289_1, r289_2, r289_3]) (f73_pack_Put_out r289_4)] (by kernel_rfl) ⟨(f76_pack_W_ok j_0 r289_0 cr289_0), (f76_pack_W_ok j_1 r289_1 cr289_1), (f77_pack_B_ok j_2 r289_2 cr289_2), (f78_pack_Flag_ok j_3 r289_3 cr289_3), (f73_pack_Put_ok n [] [r289_0, r289_1, r289_2, r289_3] r289_4 cr289_4), trivial⟩ ?_
  rcases iteS h with ⟨b294_e0, h⟩ | ⟨b294_e0, h⟩
  · refine At.step hm ht ⟨[], [true], [], [1, 2, 3], [0, 1, 2]⟩ 3 ⟨[(1, .one (.c (.ptr 0 0))), (2, .one (.c (.ptr 1 0))), (3, .one (.c (.own 2 (.int .u8) r289_4)))], [(2, some ⟨5, 0⟩)], [(0, [.d (.int .u32 j_0), .d (.int .u32 j_1), .d (.int .u8 j_2), .d (.bool j_3), .d (.bool j_4), .d (.int .u64 j_5)]), (1, [.d (.int .u8 0), .d (.sl .unit [])])], 3⟩ [j_4 = true] (by kernel_rfl) ⟨b294_e0, trivial⟩ ?_
    obtain ⟨r295_0, cr295_0, h⟩ := bindS h
    obtain ⟨r295_1, cr295_1, h⟩ := bindS h
    refine At.step hm ht ⟨[(4, .call [] [] (f74_pack_Q_out r295_0)), (6, .call [] [] (f73_pack_Put_out r295_1))], [], [], [2, 3], [1, 9]⟩ 4 ⟨[(2, .one (.c (.ptr 0 0))), (3, .one (.c (.own 1 (.int .u8) r295_1)))], [(1, some ⟨5, 0⟩)], [(0, [.d (.int .u8 0), .d (.sl .unit [])])], 2⟩ [FnOK Go.Proofs.Try.prog 74 (f74_pack_Q_in j_5) (f74_pack_Q_out r295_0), FnOK Go.Proofs.Try.prog 73 (f73_pack_Put_in r289_4 [r295_0]) (f73_pack_Put_out r295_1)] (by kernel_rfl) ⟨(f74_pack_Q_ok j_5 r295_0 cr295_0), (f73_pack_Put_ok n r289_4 [r295_0] r295_1 cr295_1), trivial⟩ ?_
    have h := Option.some.inj h
    subst h
    exact At.fin hm ht ⟨[], [], [], [2], [0, 1]⟩ [0 + 2 ≤ 2] (by kernel_rfl) ⟨(by decide), trivial⟩
  · refine At.step hm ht ⟨[], [false], [], [2, 3], [1, 2]⟩ 4 ⟨[(2, .one (.c (.ptr 0 0))), (3, .one (.c (.own 1 (.int .u8) r289_4)))], [(1, some ⟨5, 0⟩)], [(0, [.d (.int .u8 0), .d (.sl .unit [])])], 2⟩ [j_4 = false] (by kernel_rfl) ⟨b294_e0, trivial⟩ ?_
    have h := Option.some.inj h
    subst h
    exact At.fin hm ht ⟨[], [], [], [2], [0, 1]⟩ [0 + 2 ≤ 2] (by kernel_rfl) ⟨(by decide), trivial⟩
/-! brougham/broughamlaw08.join -/
def f25_broughamlaw08_join_in (j_0 : Int) (j_1 : Int) (j_2 : Int) (j_3 : Bool) (j_4 : Bool) (j_5 : Int) : Inn := ⟨[.agg [.d (.int .u32 j_0), .d (.int .u32 j_1), .d (.int .u8 j_2), .d (.bool j_3), .d (.bool j_4), .d (.int .u64 j_5)]], [], [], 0⟩
def f25_broughamlaw08_join_out (r : Int × Int × Int × Bool × Bool × Int) : Out := ⟨.one (.agg [.d (.int .u32 r.1), .d (.int .u32 r.2.1), .d (.int .u8 r.2.2.1), .d (.bool r.2.2.2.1), .d (.bool r.2.2.2.2.1), .d (.int .u64 r.2.2.2.2.2)]), [], [(0, [.d (.int .u32 r.1), .d (.int .u32 r.2.1), .d (.int .u8 r.2.2.1), .d (.bool r.2.2.2.1), .d (.bool r.2.2.2.2.1), .d (.int .u64 r.2.2.2.2.2)])], 1⟩
def f25_broughamlaw08_join (j_0 : Int) (j_1 : Int) (j_2 : Int) (j_3 : Bool) (j_4 : Bool) (j_5 : Int) : Option (Int × Int × Int × Bool × Bool × Int) :=
  some (j_0, j_1, j_2, j_3, j_4, j_5)
theorem f25_broughamlaw08_join_ok (j_0 : Int) (j_1 : Int) (j_2 : Int) (j_3 : Bool) (j_4 : Bool) (j_5 : Int) (r : Int × Int × Int × Bool × Bool × Int) (h : f25_broughamlaw08_join j_0 j_1 j_2 j_3 j_4 j_5 = some r) : FnOK Go.Proofs.Try.prog 25 (f25_broughamlaw08_join_in j_0 j_1 j_2 j_3 j_4 j_5) (f25_broughamlaw08_join_out r) := by
  unfold f25_broughamlaw08_join at h
  refine At.fn (r := 0) Go.Proofs.Try.func25 rfl (by kernel_rfl) rfl rfl (by kernel_rfl) ?_
  show At Go.Proofs.Try.prog Go.Proofs.Try.f25 0 0 ⟨[(0, .one (.agg [.d (.int .u32 j_0), .d (.int .u32 j_1), .d (.int .u8 j_2), .d (.bool j_3), .d (.bool j_4), .d (.int .u64 j_5)]))], [], [], 0⟩ _
  refine At.step hm ht ⟨[], [], [], [1, 2], [0, 1]⟩ 1 ⟨[(1, .one (.c (.ptr 0 0))), (2, .one (.c (.ptr 1 0)))], [], [(0, [.d (.int .u32 j_0), .d (.int .u32 j_1), .d (.int .u8 j_2), .d (.bool j_3), .d (.bool j_4), .d (.int .u64 j_5)]), (1, [.d (.int .u32 0), .d (.int .u32 0), .d (.int .u8 0), .d (.bool false), .d (.bool false), .d (.int .u64 0)])], 2⟩ [] (by kernel_rfl) trivial ?_
  have h := Option.some.inj h
  subst h
  exact At.fin hm ht ⟨[], [], [], [2], [1]⟩ [0 + 6 ≤ 6] (by kernel_rfl) ⟨(by decide), trivial⟩
/-! brougham/broughamref08.bit -/
def f79_broughamref08_bit_in (is_ : Bool) : Inn := ⟨[.c (.d (.bool is_))], [], [], 0⟩
def f79_broughamref08_bit_out (r : Int) : Out := ⟨.one (.c (.d (.int .u64 r))), [], [], 0⟩
def f79_broughamref08_bit (is_ : Bool) : Option (Int) :=
  if is_ = true then
    some 1
  else
    some 0
theorem f79_broughamref08_bit_ok (is_ : Bool) (r : Int) (h : f79_broughamref08_bit is_ = some r) : FnOK Go.Proofs.Try.prog 79 (f79_broughamref08_bit_in is_) (f79_broughamref08_bit_out r) := by
  unfold f79_broughamref08_bit at h
  refine At.fn (r := 0) Go.Proofs.Try.func79 rfl (by kernel_rfl) rfl rfl (by kernel_rfl) ?_
  show At Go.Proofs.Try.prog Go.Proofs.Try.f79 0 0 ⟨[(0, .one (.c (.d (.bool is_))))], [], [], 0⟩ _
  refine At.step hm ht ⟨[], [], [], [0], []⟩ 1 ⟨[(0, .one (.c (.d (.bool is_))))], [], [], 0⟩ [] (by kernel_rfl) trivial ?_
  rcases iteS h with ⟨b304_e0, h⟩ | ⟨b304_e0, h⟩
  · refine At.step hm ht ⟨[], [true], [], [], []⟩ 2 ⟨[], [], [], 0⟩ [is_ = true] (by kernel_rfl) ⟨b304_e0, trivial⟩ ?_
    have h := Option.some.inj h
    subst h
    exact At.fin hm ht ⟨[], [], [], [2], []⟩ [] (by kernel_rfl) trivial
  · refine At.step hm ht ⟨[], [false], [], [], []⟩ 3 ⟨[], [], [], 0⟩ [is_ = false] (by kernel_rfl) ⟨b304_e0, trivial⟩ ?_
    have h := Option.some.inj h
    subst h
    exact At.fin hm ht ⟨[], [], [], [2], []⟩ [] (by kernel_rfl) trivial
/-! brougham/broughamref08.Join -/
def f24_broughamref08_Join_in (j_0 : Int) (j_1 : Int) (j_2 : Int) (j_3 : Bool) (j_4 : Bool) (j_5 : Int) : Inn := ⟨[.agg [.d (.int .u32 j_0), .d (.int .u32 j_1), .d (.int .u8 j_2), .d (.bool j_3), .d (.bool j_4), .d (.int .u64 j_5)]], [], [], 0⟩
def f24_broughamref08_Join_out (r : List Int) : Out := ⟨.one (.c (.own 0 (.int .u8) r)), [(0, ⟨5, 0⟩)], [], 1⟩
def f24_broughamref08_Join (n : Nat) (j_0 : Int) (j_1 : Int) (j_2 : Int) (j_3 : Bool) (j_4 : Bool) (j_5 : Int) : Option (List Int) :=
  (f75_broughamref02_Put n (IntKind.wrap .u64 j_0) 4).bind fun r301_0 =>
  (f75_broughamref02_Put_v2 n r301_0 (IntKind.wrap .u64 j_1) 4).bind fun r301_1 =>
  if r301_1.length + [j_2].length ≤ maxLen ∧ (r301_1.length + [j_2].length) * 1 ≤ 140737488355328 then
  (f79_broughamref08_bit j_3).bind fun r302_1 =>
  (f75_broughamref02_Put_v2 n (r301_1 ++ [j_2]) r302_1 1).bind fun r302_2 =>
  if j_4 = true then
    (f75_broughamref02_Put_v2 n r302_2 j_5 8).bind fun r308_0 =>
    some r308_0
  else
    some r302_2
  else none
theorem f24_broughamref08_Join_ok (n : Nat) (j_0 : Int) (j_1 : Int) (j_2 : Int) (j_3 : Bool) (j_4 : Bool) (j_5 : Int) (r : List Int) (h : f24_broughamref08_Join n j_0 j_1 j_2 j_3 j_4 j_5 = some r) : FnOK Go.Proofs.Try.prog 24 (f24_broughamref08_Join_in j_0 j_1 j_2 j_3 j_4 j_5) (f24_broughamref08_Join_out r) := by
  unfold f24_broughamref08_Join at h
  refine At.fn (r := 0) Go.Proofs.Try.func24 rfl (by kernel_rfl) rfl rfl (by kernel_rfl) ?_
  show At Go.Proofs.Try.prog Go.Proofs.Try.f24 0 0 ⟨[(0, .one (.agg [.d (.int .u32 j_0), .d (.int .u32 j_1), .d (.int .u8 j_2), .d (.bool j_3), .d (.bool j_4), .d (.int .u64 j_5)]))], [], [], 0⟩ _
  refine At.step hm ht ⟨[], [], [], [1], [0]⟩ 1 ⟨[(1, .one (.c (.ptr 0 0)))], [], [(0, [.d (.int .u32 j_0), .d (.int .u32 j_1), .d (.int .u8 j_2), .d (.bool j_3), .d (.bool j_4), .d (.int .u64 j_5)])], 1⟩ [] (by kernel_rfl) trivial ?_
  obtain ⟨r301_0, cr301_0, h⟩ := bindS h
  obtain ⟨r301_1, cr301_1, h⟩ := bindS h
  refine At.step hm ht ⟨[(3, .call [] [] (f75_broughamref02_Put_out r301_0)), (7, .call [4] [] (f75_broughamref02_Put_v2_out r301_1))], [], [], [1, 3], [0, 9]⟩ 2 ⟨[(1, .one (.c (.ptr 0 0))), (3, .one (.c (.own 1 (.int .u8) r301_1)))], [(1, some ⟨5, 0⟩)], [(0, [.d (.int .u32 j_0), .d (.int .u32 j_1), .d (.int .u8 j_2), .d (.bool j_3), .d (.bool j_4), .d (.int .u64 j_5)])], 2⟩ [FnOK Go.Proofs.Try.prog 75 (f75_broughamref02_Put_in (IntKind.wrap .u64 j_0) 4) (f75_broughamref02_Put_out r301_0), FnOK Go.Proofs.Try.prog 75 (f75_broughamref02_Put_v2_in r301_0 (IntKind.wrap .u64 j_1) 4) (f75_broughamref02_Put_v2_out r301_1)] (by kernel_rfl) ⟨(f75_broughamref02_Put_ok n (IntKind.wrap .u64 j_0) 4 r301_0 cr301_0), (f75_broughamref02_Put_v2_ok n r301_0 (IntKind.wrap .u64 j_1) 4 r301_1 cr301_1), trivial⟩ ?_
  obtain ⟨g302_0, h⟩ := ifS h
  obtain ⟨r302_1, cr302_1, h⟩ := bindS h
  obtain ⟨r302_2, cr302_2, h⟩ := bindS h
  refine At.step hm ht ⟨[(7, .call [] [] (f79_broughamref08_bit_out r302_1)), (8, .call [6] [] (f75_broughamref02_Put_v2_out r302_2))], [], [], [1, 3], [0, 10]⟩ 3 ⟨[(1, .one (.c (.ptr 0 0))), (3, .one (.c (.own 1 (.int .u8) r302_2)))], [(1, some ⟨5, 0⟩)], [(0, [.d (.int .u32 j_0), .d (.int .u32 j_1), .d (.int .u8 j_2), .d (.bool j_3), .d (.bool j_4), .d (.int .u64 j_5)])], 2⟩ [r301_1.length + [j_2].length ≤ maxLen ∧ (r301_1.length + [j_2].length) * 1 ≤ 140737488355328, FnOK Go.Proofs.Try.prog 79 (f79_broughamref08_bit_in j_3) (f79_broughamref08_bit_out r302_1), FnOK Go.Proofs.Try.prog 75 (f75_broughamref02_Put_v2_in (r301_1 ++ [j_2]) r302_1 1) (f75_broughamref02_Put_v2_out r302_2)] (by kernel_rfl) ⟨g302_0, (f79_broughamref08_bit_ok j_3 r302_1 cr302_1), (f75_broughamref02_Put_v2_ok n (r301_1 ++ [j_2]) r302_1 1 r302_2 cr302_2), trivial⟩ ?_
  rcases iteS h with ⟨b307_e0, h⟩ | ⟨b307_e0, h⟩
  · refine At.step hm ht ⟨[], [true], [], [1, 3], [0, 1]⟩ 4 ⟨[(1, .one (.c (.ptr 0 0))), (3, .one (.c (.own 1 (.int .u8) r302_2)))], [(1, some ⟨5, 0⟩)], [(0, [.d (.int .u32 j_0), .d (.int .u32 j_1), .d (.int .u8 j_2), .d (.bool j_3), .d (.bool j_4), .d (.int .u64 j_5)])], 2⟩ [j_4 = true] (by kernel_rfl) ⟨b307_e0, trivial⟩ ?_
    obtain ⟨r308_0, cr308_0, h⟩ := bindS h
    refine At.step hm ht ⟨[(3, .call [1] [] (f75_broughamref02_Put_v2_out r308_0))], [], [], [3], [6]⟩ 5 ⟨[(3, .one (.c (.own 0 (.int .u8) r308_0)))], [(0, some ⟨5, 0⟩)], [], 1⟩ [FnOK Go.Proofs.Try.prog 75 (f75_broughamref02_Put_v2_in r302_2 j_5 8) (f75_broughamref02_Put_v2_out r308_0)] (by kernel_rfl) ⟨(f75_broughamref02_Put_v2_ok n r302_2 j_5 8 r308_0 cr308_0), trivial⟩ ?_
    have h := Option.some.inj h
    subst h
    exact At.fin hm ht ⟨[], [], [], [2], [0]⟩ [] (by kernel_rfl) trivial
  · refine At.step hm ht ⟨[], [false], [], [3], [1]⟩ 5 ⟨[(3, .one (.c (.own 0 (.int .u8) r302_2)))], [(0, some ⟨5, 0⟩)], [], 1⟩ [j_4 = false] (by kernel_rfl) ⟨b307_e0, trivial⟩ ?_
    have h := Option.some.inj h
    subst h
    exact At.fin hm ht ⟨[], [], [], [2], [0]⟩ [] (by kernel_rfl) trivial
/-! brougham/broughamlaw08.data -/
def f28_broughamlaw08_data_in (d_0 : Bool) (d_1 : Bool) (d_2 : Int) (d_3 : Int) (d_4 : Int) (d_5 : Int) : Inn := ⟨[.agg [.d (.bool d_0), .d (.bool d_1), .d (.int .u64 d_2), .d (.int .u64 d_3), .d (.int .u32 d_4), .d (.int .u64 d_5)]], [], [], 0⟩
def f28_broughamlaw08_data_out (r : Bool × Bool × Int × Int × Int × Int) : Out := ⟨.one (.agg [.d (.bool r.1), .d (.bool r.2.1), .d (.int .u64 r.2.2.1), .d (.int .u64 r.2.2.2.1), .d (.int .u32 r.2.2.2.2.1), .d (.int .u64 r.2.2.2.2.2)]), [], [(0, [.d (.bool r.1), .d (.bool r.2.1), .d (.int .u64 r.2.2.1), .d (.int .u64 r.2.2.2.1), .d (.int .u32 r.2.2.2.2.1), .d (.int .u64 r.2.2.2.2.2)])], 1⟩
def f28_broughamlaw08_data (d_0 : Bool) (d_1 : Bool) (d_2 : Int) (d_3 : Int) (d_4 : Int) (d_5 : Int) : Option (Bool × Bool × Int × Int × Int × Int) :=
  some (d_0, d_1, d_2, d_3, d_4, d_5)
theorem f28_broughamlaw08_data_ok (d_0 : Bool) (d_1 : Bool) (d_2 : Int) (d_3 : Int) (d_4 : Int) (d_5 : Int) (r : Bool × Bool × Int × Int × Int × Int) (h : f28_broughamlaw08_data d_0 d_1 d_2 d_3 d_4 d_5 = some r) : FnOK Go.Proofs.Try.prog 28 (f28_broughamlaw08_data_in d_0 d_1 d_2 d_3 d_4 d_5) (f28_broughamlaw08_data_out r) := by
  unfold f28_broughamlaw08_data at h
  refine At.fn (r := 0) Go.Proofs.Try.func28 rfl (by kernel_rfl) rfl rfl (by kernel_rfl) ?_
  show At Go.Proofs.Try.prog Go.Proofs.Try.f28 0 0 ⟨[(0, .one (.agg [.d (.bool d_0), .d (.bool d_1), .d (.int .u64 d_2), .d (.int .u64 d_3), .d (.int .u32 d_4), .d (.int .u64 d_5)]))], [], [], 0⟩ _
  refine At.step hm ht ⟨[], [], [], [1, 2], [0, 1]⟩ 1 ⟨[(1, .one (.c (.ptr 0 0))), (2, .one (.c (.ptr 1 0)))], [], [(0, [.d (.bool d_0), .d (.bool d_1), .d (.int .u64 d_2), .d (.int .u64 d_3), .d (.int .u32 d_4), .d (.int .u64 d_5)]), (1, [.d (.bool false), .d (.bool false), .d (.int .u64 0), .d (.int .u64 0), .d (.int .u32 0), .d (.int .u64 0)])], 2⟩ [] (by kernel_rfl) trivial ?_
  have h := Option.some.inj h
  subst h
  exact At.fin hm ht ⟨[], [], [], [2], [1]⟩ [0 + 6 ≤ 6] (by kernel_rfl) ⟨(by decide), trivial⟩
/-! brougham/broughamref08.Data -/
def f27_broughamref08_Data_in (d_0 : Bool) (d_1 : Bool) (d_2 : Int) (d_3 : Int) (d_4 : Int) (d_5 : Int) : Inn := ⟨[.agg [.d (.bool d_0), .d (.bool d_1), .d (.int .u64 d_2), .d (.int .u64 d_3), .d (.int .u32 d_4), .d (.int .u64 d_5)]], [], [], 0⟩
def f27_broughamref08_Data_out (r : List Int) : Out := ⟨.one (.c (.own 0 (.int .u8) r)), [(0, ⟨5, 0⟩)], [], 1⟩
def f27_broughamref08_Data (n : Nat) (d_0 : Bool) (d_1 : Bool) (d_2 : Int) (d_3 : Int) (d_4 : Int) (d_5 : Int) : Option (List Int) :=
  (f79_broughamref08_bit d_0).bind fun r314_0 =>
  (f79_broughamref08_bit d_1).bind fun r314_1 =>
  (f75_broughamref02_Put n (IntKind.wrap .u64 (r314_0 + (IntKind.wrap .u64 (2 * r314_1)))) 1).bind fun r314_2 =>
  (f75_broughamref02_Put_v2 n r314_2 d_2 8).bind fun r315_0 =>
  (f75_broughamref02_Put_v2 n r315_0 d_3 8).bind fun r315_1 =>
  (f75_broughamref02_Put_v2 n r315_1 (IntKind.wrap .u64 d_4) 4).bind fun r316_0 =>
  (f75_broughamref02_Put_v2 n r316_0 d_5 8).bind fun r316_1 =>
  some r316_1
theorem f27_broughamref08_Data_ok (n : Nat) (d_0 : Bool) (d_1 : Bool) (d_2 : Int) (d_3 : Int) (d_4 : Int) (d_5 : Int) (r : List Int) (h : f27_broughamref08_Data n d_0 d_1 d_2 d_3 d_4 d_5 = some r) : FnOK Go.Proofs.Try.prog 27 (f27_broughamref08_Data_in d_0 d_1 d_2 d_3 d_4 d_5) (f27_broughamref08_Data_out r) := by
  unfold f27_broughamref08_Data at h
  refine At.fn (r := 0) Go.Proofs.Try.func27 rfl (by kernel_rfl) rfl rfl (by kernel_rfl) ?_
  show At Go.Proofs.Try.prog Go.Proofs.Try.f27 0 0 ⟨[(0, .one (.agg [.d (.bool d_0), .d (.bool d_1), .d (.int .u64 d_2), .d (.int .u64 d_3), .d (.int .u32 d_4), .d (.int .u64 d_5)]))], [], [], 0⟩ _
  refine At.step hm ht ⟨[], [], [], [1], [0]⟩ 1 ⟨[(1, .one (.c (.ptr 0 0)))], [], [(0, [.d (.bool d_0), .d (.bool d_1), .d (.int .u64 d_2), .d (.int .u64 d_3), .d (.int .u32 d_4), .d (.int .u64 d_5)])], 1⟩ [] (by kernel_rfl) trivial ?_
  obtain ⟨r314_0, cr314_0, h⟩ := bindS h
  obtain ⟨r314_1, cr314_1, h⟩ := bindS h
  obtain ⟨r314_2, cr314_2, h⟩ := bindS h
  refine At.step hm ht ⟨[(2, .call [] [] (f79_broughamref08_bit_out r314_0)), (5, .call [] [] (f79_broughamref08_bit_out r314_1)), (8, .call [] [] (f75_broughamref02_Put_out r314_2))], [], [], [1, 3], [0, 7]⟩ 2 ⟨[(1, .one (.c (.ptr 0 0))), (3, .one (.c (.own 1 (.int .u8) r314_2)))], [(1, some ⟨5, 0⟩)], [(0, [.d (.bool d_0), .d (.bool d_1), .d (.int .u64 d_2), .d (.int .u64 d_3), .d (.int .u32 d_4), .d (.int .u64 d_5)])], 2⟩ [FnOK Go.Proofs.Try.prog 79 (f79_broughamref08_bit_in d_0) (f79_broughamref08_bit_out r314_0), FnOK Go.Proofs.Try.prog 79 (f79_broughamref08_bit_in d_1) (f79_broughamref08_bit_out r314_1), FnOK Go.Proofs.Try.prog 75 (f75_broughamref02_Put_in (IntKind.wrap .u64 (r314_0 + (IntKind.wrap .u64 (2 * r314_1)))) 1) (f75_broughamref02_Put_out r314_2)] (by kernel_rfl) ⟨(f79_broughamref08_bit_ok d_0 r314_0 cr314_0), (f79_broughamref08_bit_ok d_1 r314_1 cr314_1), (f75_broughamref02_Put_ok n (IntKind.wrap .u64 (r314_0 + (IntKind.wrap .u64 (2 * r314_1)))) 1 r314_2 cr314_2), trivial⟩ ?_
  obtain ⟨r315_0, cr315_0, h⟩ := bindS h
  obtain ⟨r315_1, cr315_1, h⟩ := bindS h
  refine At.step hm ht ⟨[(3, .call [1] [] (f75_broughamref02_Put_v2_out r315_0)), (6, .call [6] [] (f75_broughamref02_Put_v2_out r315_1))], [], [], [1, 3], [0, 10]⟩ 3 ⟨[(1, .one (.c (.ptr 0 0))), (3, .one (.c (.own 1 (.int .u8) r315_1)))], [(1, some ⟨5, 0⟩)], [(0, [.d (.bool d_0), .d (.bool d_1), .d (.int .u64 d_2), .d (.int .u64 d_3), .d (.int .u32 d_4), .d (.int .u64 d_5)])], 2⟩ [FnOK Go.Proofs.Try.prog 75 (f75_broughamref02_Put_v2_in r314_2 d_2 8) (f75_broughamref02_Put_v2_out r315_0), FnOK Go.Proofs.Try.prog 75 (f75_broughamref02_Put_v2_in r315_0 d_3 8) (f75_broughamref02_Put_v2_out r315_1)] (by kernel_rfl) ⟨(f75_broughamref02_Put_v2_ok n r314_2 d_2 8 r315_0 cr315_0), (f75_broughamref02_Put_v2_ok n r315_0 d_3 8 r315_1 cr315_1), trivial⟩ ?_
  obtain ⟨r316_0, cr316_0, h⟩ := bindS h
  obtain ⟨r316_1, cr316_1, h⟩ := bindS h
  have h := Option.some.inj h
  subst h
  exact At.fin hm ht ⟨[(4, .call [1] [] (f75_broughamref02_Put_v2_out r316_0)), (7, .call [7] [] (f75_broughamref02_Put_v2_out r316_1))], [], [], [2], [11]⟩ [FnOK Go.Proofs.Try.prog 75 (f75_broughamref02_Put_v2_in r315_1 (IntKind.wrap .u64 d_4) 4) (f75_broughamref02_Put_v2_out r316_0), FnOK Go.Proofs.Try.prog 75 (f75_broughamref02_Put_v2_in r316_0 d_5 8) (f75_broughamref02_Put_v2_out r316_1)] (by kernel_rfl) ⟨(f75_broughamref02_Put_v2_ok n r315_1 (IntKind.wrap .u64 d_4) 4 r316_0 cr316_0), (f75_broughamref02_Put_v2_ok n r316_0 d_5 8 r316_1 cr316_1), trivial⟩
/-! (brougham/opt.Word).Option -/
def f29_opt_Word_Option_in (w__0 : Int) (w__1 : Int) (w__2 : Int) (w__3 : Int) (w__4 : Bool) (w__5 : Int) : Inn := ⟨[.agg [.d (.int .u8 w__0), .d (.int .u32 w__1), .d (.int .u8 w__2), .d (.int .u8 w__3), .d (.bool w__4), .d (.int .u64 w__5)]], [], [], 0⟩
def f29_opt_Word_Option_out (r : Int × List Int) : Out := ⟨.one (.agg [.d (.int .u8 r.1), .own 1 (.int .u8) r.2]), [(1, ⟨5, 0⟩)], [(0, [.d (.int .u8 r.1), .own 1 (.int .u8) r.2])], 2⟩
def f29_opt_Word_Option (n : Nat) (w__0 : Int) (w__1 : Int) (w__2 : Int) (w__3 : Int) (w__4 : Bool) (w__5 : Int) : Option (Int × List Int) :=
  (f76_pack_W w__1).bind fun r318_0 =>
  (f77_pack_B w__2).bind fun r318_1 =>
  (f77_pack_B w__3).bind fun r318_2 =>
  (f78_pack_Flag w__4).bind fun r318_3 =>
  (f74_pack_Q w__5).bind fun r318_4 =>
  (f73_pack_Put n [] [r318_0, r318_1, r318_2, r318_3, r318_4]).bind fun r318_5 =>
  some (w__0, r318_5)
theorem f29_opt_Word_Option_ok (n : Nat) (w__0 : Int) (w__1 : Int) (w__2 : Int) (w__3 : Int) (w__4 : Bool) (w__5 : Int) (r : Int × List Int) (h : f29_opt_Word_Option n w__0 w__1 w__2 w__3 w__4 w__5 = some r) : FnOK Go.Proofs.Try.prog 29 (f29_opt_Word_Option_in w__0 w__1 w__2 w__3 w__4 w__5) (f29_opt_Word_Option_out r) := by
  unfold f29_opt_Word_Option at h
  refine At.fn (r := 0) Go.Proofs.Try.func29 rfl (by kernel_rfl) rfl rfl (by kernel_rfl) ?_
  show At Go.Proofs.Try.prog Go.Proofs.Try.f29 0 0 ⟨[(0, .one (.agg [.d (.int .u8 w__0), .d (.int .u32 w__1), .d (.int .u8 w__2), .d (.int .u8 w__3), .d (.bool w__4), .d (.int .u64 w__5)]))], [], [], 0⟩ _
  refine At.step hm ht ⟨[], [], [], [1, 2], [0, 1]⟩ 1 ⟨[(1, .one (.c (.ptr 0 0))), (2, .one (.c (.ptr 1 0)))], [], [(0, [.d (.int .u8 w__0), .d (.int .u32 w__1), .d (.int .u8 w__2), .d (.int .u8 w__3), .d (.bool w__4), .d (.int .u64 w__5)]), (1, [.d (.int .u8 0), .d (.sl .unit [])])], 2⟩ [] (by kernel_rfl) trivial ?_
  obtain ⟨r318_0, cr318_0, h⟩ := bindS h
  obtain ⟨r318_1, cr318_1, h⟩ := bindS h
  obtain ⟨r318_2, cr318_2, h⟩ := bindS h
  obtain ⟨r318_3, cr318_3, h⟩ := bindS h
  obtain ⟨r318_4, cr318_4, h⟩ := bindS h
  obtain ⟨r318_5, cr318_5, h⟩ := bindS h
  have h := Option.some.inj h
  subst h
  exact At.fin hm ht ⟨[(4, .call [] [] (f76_pack_W_out r318_0)), (7, .call [] [] (f77_pack_B_out r318_1)), (10, .call [] [] (f77_pack_B_out r318_2)), (13, .call [] [] (f78_pack_Flag_out r318_3)), (17, .call [] [] (f74_pack_Q_out r318_4)), (19, .call [] [(0, 0, (.int .u8))] (f73_pack_Put_out r318_5))], [], [], [2], [1, 21]⟩ [FnOK Go.Proofs.Try.prog 76 (f76_pack_W_in w__1) (f76_pack_W_out r318_0), FnOK Go.Proofs.Try.prog 77 (f77_pack_B_in w__2) (f77_pack_B_out r318_1), FnOK Go.Proofs.Try.prog 77 (f77_pack_B_in w__3) (f77_pack_B_out r318_2), FnOK Go.Proofs.Try.prog 78 (f78_pack_Flag_in w__4) (f78_pack_Flag_out r318_3), FnOK Go.Proofs.Try.prog 74 (f74_pack_Q_in w__5) (f74_pack_Q_out r318_4), FnOK Go.Proofs.Try.prog 73 (f73_pack_Put_in [] [r318_0, r318_1, r318_2, r318_3, r318_4]) (f73_pack_Put_out r318_5), 0 + 2 ≤ 2] (by kernel_rfl) ⟨(f76_pack_W_ok w__1 r318_0 cr318_0), (f77_pack_B_ok w__2 r318_1 cr318_1), (f77_pack_B_ok w__3 r318_2 cr318_2), (f78_pack_Flag_ok w__4 r318_3 cr318_3), (f74_pack_Q_ok w__5 r318_4 cr318_4), (f73_pack_Put_ok n [] [r318_0, r318_1, r318_2, r318_3, r318_4] r318_5 cr318_5), (by decide), trivial⟩
/-! brougham/broughamlaw08.word -/
def f31_broughamlaw08_word_in (w__0 : Int) (w__1 : Int) (w__2 : Int) (w__3 : Int) (w__4 : Bool) (w__5 : Int) : Inn := ⟨[.agg [.d (.int .u8 w__0), .d (.int .u32 w__1), .d (.int .u8 w__2), .d (.int .u8 w__3), .d (.bool w__4), .d (.int .u64 w__5)]], [], [], 0⟩
def f31_broughamlaw08_word_out (r : Int × Int × Int × Bool × Int) : Out := ⟨.one (.agg [.d (.int .u32 r.1), .d (.int .u8 r.2.1), .d (.int .u8 r.2.2.1), .d (.bool r.2.2.2.1), .d (.int .u64 r.2.2.2.2)]), [], [(0, [.d (.int .u32 r.1), .d (.int .u8 r.2.1), .d (.int .u8 r.2.2.1), .d (.bool r.2.2.2.1), .d (.int .u64 r.2.2.2.2)])], 1⟩
def f31_broughamlaw08_word (w__0 : Int) (w__1 : Int) (w__2 : Int) (w__3 : Int) (w__4 : Bool) (w__5 : Int) : Option (Int × Int × Int × Bool × Int) :=
  some (w__1, w__2, w__3, w__4, w__5)
theorem f31_broughamlaw08_word_ok (w__0 : Int) (w__1 : Int) (w__2 : Int) (w__3 : Int) (w__4 : Bool) (w__5 : Int) (r : Int × Int × Int × Bool × Int) (h : f31_broughamlaw08_word w__0 w__1 w__2 w__3 w__4 w__5 = some r) : FnOK Go.Proofs.Try.prog 31 (f31_broughamlaw08_word_in w__0 w__1 w__2 w__3 w__4 w__5) (f31_broughamlaw08_word_out r) := by
  unfold f31_broughamlaw08_word at h
  refine At.fn (r := 0) Go.Proofs.Try.func31 rfl (by kernel_rfl) rfl rfl (by kernel_rfl) ?_
  show At Go.Proofs.Try.prog Go.Proofs.Try.f31 0 0 ⟨[(0, .one (.agg [.d (.int .u8 w__0), .d (.int .u32 w__1), .d (.int .u8 w__2), .d (.int .u8 w__3), .d (.bool w__4), .d (.int .u64 w__5)]))], [], [], 0⟩ _
  refine At.step hm ht ⟨[], [], [], [1, 2], [0, 1]⟩ 1 ⟨[(1, .one (.c (.ptr 0 0))), (2, .one (.c (.ptr 1 0)))], [], [(0, [.d (.int .u8 w__0), .d (.int .u32 w__1), .d (.int .u8 w__2), .d (.int .u8 w__3), .d (.bool w__4), .d (.int .u64 w__5)]), (1, [.d (.int .u32 0), .d (.int .u8 0), .d (.int .u8 0), .d (.bool false), .d (.int .u64 0)])], 2⟩ [] (by kernel_rfl) trivial ?_
  have h := Option.some.inj h
  subst h
  exact At.fin hm ht ⟨[], [], [], [2], [1]⟩ [0 + 5 ≤ 5] (by kernel_rfl) ⟨(by decide), trivial⟩
/-! brougham/broughamref08.Word -/
def f30_broughamref08_Word_in (w__0 : Int) (w__1 : Int) (w__2 : Int) (w__3 : Bool) (w__4 : Int) : Inn := ⟨[.agg [.d (.int .u32 w__0), .d (.int .u8 w__1), .d (.int .u8 w__2), .d (.bool w__3), .d (.int .u64 w__4)]], [], [], 0⟩
def f30_broughamref08_Word_out (r : List Int) : Out := ⟨.one (.c (.own 0 (.int .u8) r)), [(0, ⟨5, 0⟩)], [], 1⟩
def f30_broughamref08_Word (n : Nat) (w__0 : Int) (w__1 : Int) (w__2 : Int) (w__3 : Bool) (w__4 : Int) : Option (List Int) :=
  (f75_broughamref02_Put n (IntKind.wrap .u64 w__0) 4).bind fun r322_0 =>
  if r322_0.length + [w__1, w__2].length ≤ maxLen ∧ (r322_0.length + [w__1, w__2].length) * 1 ≤ 140737488355328 then
  (f79_broughamref08_bit w__3).bind fun r323_0 =>
  (f75_broughamref02_Put_v2 n (r322_0 ++ [w__1, w__2]) r323_0 1).bind fun r323_1 =>
  (f75_broughamref02_Put_v2 n r323_1 w__4 8).bind fun r323_2 =>
  some r323_2
  else none
theorem f30_broughamref08_Word_ok (n : Nat) (w__0 : Int) (w__1 : Int) (w__2 : Int) (w__3 : Bool) (w__4 : Int) (r : List Int) (h : f30_broughamref08_Word n w__0 w__1 w__2 w__3 w__4 = some r) : FnOK Go.Proofs.Try.prog 30 (f30_broughamref08_Word_in w__0 w__1 w__2 w__3 w__4) (f30_broughamref08_Word_out r) := by
  unfold f30_broughamref08_Word at h
  refine At.fn (r := 0) Go.Proofs.Try.func30 rfl (by kernel_rfl) rfl rfl (by kernel_rfl) ?_
  show At Go.Proofs.Try.prog Go.Proofs.Try.f30 0 0 ⟨[(0, .one (.agg [.d (.int .u32 w__0), .d (.int .u8 w__1), .d (.int .u8 w__2), .d (.bool w__3), .d (.int .u64 w__4)]))], [], [], 0⟩ _
  refine At.step hm ht ⟨[], [], [], [1], [0]⟩ 1 ⟨[(1, .one (.c (.ptr 0 0)))], [], [(0, [.d (.int .u32 w__0), .d (.int .u8 w__1), .d (.int .u8 w__2), .d (.bool w__3), .d (.int .u64 w__4)])], 1⟩ [] (by kernel_rfl) trivial ?_
  obtain ⟨r322_0, cr322_0, h⟩ := bindS h
  obtain ⟨g322_1, h⟩ := ifS h
  refine At.step hm ht ⟨[(3, .call [] [] (f75_broughamref02_Put_out r322_0))], [], [], [1, 3], [0, 10]⟩ 2 ⟨[(1, .one (.c (.ptr 0 0))), (3, .one (.c (.own 1 (.int .u8) (r322_0 ++ [w__1, w__2]))))], [(1, some ⟨5, 0⟩)], [(0, [.d (.int .u32 w__0), .d (.int .u8 w__1), .d (.int .u8 w__2), .d (.bool w__3), .d (.int .u64 w__4)])], 2⟩ [FnOK Go.Proofs.Try.prog 75 (f75_broughamref02_Put_in (IntKind.wrap .u64 w__0) 4) (f75_broughamref02_Put_out r322_0), r322_0.length + [w__1, w__2].length ≤ maxLen ∧ (r322_0.length + [w__1, w__2].length) * 1 ≤ 140737488355328] (by kernel_rfl) ⟨(f75_broughamref02_Put_ok n (IntKind.wrap .u64 w__0) 4 r322_0 cr322_0), g322_1, trivial⟩ ?_
  obtain ⟨r323_0, cr323_0, h⟩ := bindS h
  obtain ⟨r323_1, cr323_1, h⟩ := bindS h
  obtain ⟨r323_2, cr323_2, h⟩ := bindS h
  have h := Option.some.inj h
  subst h
  exact At.fin hm ht ⟨[(3, .call [] [] (f79_broughamref08_bit_out r323_0)), (4, .call [1] [] (f75_broughamref02_Put_v2_out r323_1)), (7, .call [6] [] (f75_broughamref02_Put_v2_out r323_2))], [], [], [2], [10]⟩ [FnOK Go.Proofs.Try.prog 79 (f79_broughamref08_bit_in w__3) (f79_broughamref08_bit_out r323_0), FnOK Go.Proofs.Try.prog 75 (f75_broughamref02_Put_v2_in (r322_0 ++ [w__1, w__2]) r323_0 1) (f75_broughamref02_Put_v2_out r323_1), FnOK Go.Proofs.Try.prog 75 (f75_broughamref02_Put_v2_in r323_1 w__4 8) (f75_broughamref02_Put_v2_out r323_2)] (by kernel_rfl) ⟨(f79_broughamref08_bit_ok w__3 r323_0 cr323_0), (f75_broughamref02_Put_v2_ok n (r322_0 ++ [w__1, w__2]) r323_0 1 r323_1 cr323_1), (f75_broughamref02_Put_v2_ok n r323_1 w__4 8 r323_2 cr323_2), trivial⟩
/-! brougham/broughamlaw08.OptWrites -/
def f4_broughamlaw08_OptWrites_in (x_0 : Int) (x_1 : Bool) (x_2 : Int) (x_3 : Int) (x_4 : Int) (x_5 : Int) (x_6 : Bool) (x_7 : Bool) (x_8 : Int) (x_9 : Bool) (x_10 : Bool) (x_11 : Int) (x_12 : Int) (x_13 : Int) (x_14 : Int) (x_15 : Int) (x_16 : Int) (x_17 : Int) (x_18 : Int) (x_19 : Bool) (x_20 : Int) : Inn := ⟨[.agg [.d (.int .u64 x_0), .d (.bool x_1), .d (.int .u64 x_2), .d (.int .u32 x_3), .d (.int .u32 x_4), .d (.int .u8 x_5), .d (.bool x_6), .d (.bool x_7), .d (.int .u64 x_8), .d (.bool x_9), .d (.bool x_10), .d (.int .u64 x_11), .d (.int .u64 x_12), .d (.int .u32 x_13), .d (.int .u64 x_14), .d (.int .u8 x_15), .d (.int .u32 x_16), .d (.int .u8 x_17), .d (.int .u8 x_18), .d (.bool x_19), .d (.int .u64 x_20)]], [], [], 0⟩
def f4_broughamlaw08_OptWrites_out (r : Bool) : Out := ⟨.one (.c (.d (.bool r))), [], [], 0⟩
def f4_broughamlaw08_OptWrites (n : Nat) (x_0 : Int) (x_1 : Bool) (x_2 : Int) (x_3 : Int) (x_4 : Int) (x_5 : Int) (x_6 : Bool) (x_7 : Bool) (x_8 : Int) (x_9 : Bool) (x_10 : Bool) (x_11 : Int) (x_12 : Int) (x_13 : Int) (x_14 : Int) (x_15 : Int) (x_16 : Int) (x_17 : Int) (x_18 : Int) (x_19 : Bool) (x_20 : Int) : Option (Bool) :=
  (f21_opt_Key_Option n x_0 x_1 x_2).bind fun r249_0 =>
  (f22_broughamref08_Key n x_0 x_2 x_1).bind fun r249_1 =>
  (f20_broughamlaw08_is r249_0.1 r249_0.2 1 r249_1).bind fun r249_2 =>
  if r249_2 = true then
    (f23_opt_Join_Option n x_3 x_4 x_5 x_6 x_7 x_8).bind fun r249_3 =>
    (f25_broughamlaw08_join x_3 x_4 x_5 x_6 x_7 x_8).bind fun r249_4 =>
    (f24_broughamref08_Join n r249_4.1 r249_4.2.1 r249_4.2.2.1 r249_4.2.2.2.1 r249_4.2.2.2.2.1 r249_4.2.2.2.2.2).bind fun r249_5 =>
    (f20_broughamlaw08_is r249_3.1 r249_3.2 2 r249_5).bind fun r249_6 =>
    if r249_6 = true then
      (f26_opt_Data_Option n x_9 x_10 x_11 x_12 x_13 x_14).bind fun r249_7 =>
      (f28_broughamlaw08_data x_9 x_10 x_11 x_12 x_13 x_14).bind fun r249_8 =>
      (f27_broughamref08_Data n r249_8.1 r249_8.2.1 r249_8.2.2.1 r249_8.2.2.2.1 r249_8.2.2.2.2.1 r249_8.2.2.2.2.2).bind fun r249_9 =>
      (f20_broughamlaw08_is r249_7.1 r249_7.2 3 r249_9).bind fun r249_10 =>
      if r249_10 = true then
        (f29_opt_Word_Option n x_15 x_16 x_17 x_18 x_19 x_20).bind fun r249_11 =>
        (f31_broughamlaw08_word x_15 x_16 x_17 x_18 x_19 x_20).bind fun r249_12 =>
        (f30_broughamref08_Word n r249_12.1 r249_12.2.1 r249_12.2.2.1 r249_12.2.2.2.1 r249_12.2.2.2.2).bind fun r249_13 =>
        (f20_broughamlaw08_is r249_11.1 r249_11.2 x_15 r249_13).bind fun r249_14 =>
        if r249_14 = true then
          (f19_broughamlaw08_alive n).bind fun r249_15 =>
          some r249_15
        else
          some false
      else
        some false
    else
      some false
  else
    some false
theorem f4_broughamlaw08_OptWrites_ok (n : Nat) (x_0 : Int) (x_1 : Bool) (x_2 : Int) (x_3 : Int) (x_4 : Int) (x_5 : Int) (x_6 : Bool) (x_7 : Bool) (x_8 : Int) (x_9 : Bool) (x_10 : Bool) (x_11 : Int) (x_12 : Int) (x_13 : Int) (x_14 : Int) (x_15 : Int) (x_16 : Int) (x_17 : Int) (x_18 : Int) (x_19 : Bool) (x_20 : Int) (r : Bool) (h : f4_broughamlaw08_OptWrites n x_0 x_1 x_2 x_3 x_4 x_5 x_6 x_7 x_8 x_9 x_10 x_11 x_12 x_13 x_14 x_15 x_16 x_17 x_18 x_19 x_20 = some r) : FnOK Go.Proofs.Try.prog 4 (f4_broughamlaw08_OptWrites_in x_0 x_1 x_2 x_3 x_4 x_5 x_6 x_7 x_8 x_9 x_10 x_11 x_12 x_13 x_14 x_15 x_16 x_17 x_18 x_19 x_20) (f4_broughamlaw08_OptWrites_out r) := by
  unfold f4_broughamlaw08_OptWrites at h
  refine At.fn (r := 0) Go.Proofs.Try.func4 rfl (by kernel_rfl) rfl rfl (by kernel_rfl) ?_
  show At Go.Proofs.Try.prog Go.Proofs.Try.f4 0 0 ⟨[(0, .one (.agg [.d (.int .u64 x_0), .d (.bool x_1), .d (.int .u64 x_2), .d (.int .u32 x_3), .d (.int .u32 x_4), .d (.int .u8 x_5), .d (.bool x_6), .d (.bool x_7), .d (.int .u64 x_8), .d (.bool x_9), .d (.bool x_10), .d (.int .u64 x_11), .d (.int .u64 x_12), .d (.int .u32 x_13), .d (.int .u64 x_14), .d (.int .u8 x_15), .d (.int .u32 x_16), .d (.int .u8 x_17), .d (.int .u8 x_18), .d (.bool x_19), .d (.int .u64 x_20)]))], [], [], 0⟩ _
  refine At.step hm ht ⟨[], [], [], [1], [0]⟩ 1 ⟨[(1, .one (.c (.ptr 0 0)))], [], [(0, [.d (.int .u64 x_0), .d (.bool x_1), .d (.int .u64 x_2), .d (.int .u32 x_3), .d (.int .u32 x_4), .d (.int .u8 x_5), .d (.bool x_6), .d (.bool x_7), .d (.int .u64 x_8), .d (.bool x_9), .d (.bool x_10), .d (.int .u64 x_11), .d (.int .u64 x_12), .d (.int .u32 x_13), .d (.int .u64 x_14), .d (.int .u8 x_15), .d (.int .u32 x_16), .d (.int .u8 x_17), .d (.int .u8 x_18), .d (.bool x_19), .d (.int .u64 x_20)])], 1⟩ [] (by kernel_rfl) trivial ?_
  obtain ⟨r249_0, cr249_0, h⟩ := bindS h
  obtain ⟨r249_1, cr249_1, h⟩ := bindS h
  obtain ⟨r249_2, cr249_2, h⟩ := bindS h
  rcases iteS h with ⟨b249_15, h⟩ | ⟨b249_15, h⟩
  · obtain ⟨r249_3, cr249_3, h⟩ := bindS h
    obtain ⟨r249_4, cr249_4, h⟩ := bindS h
    obtain ⟨r249_5, cr249_5, h⟩ := bindS h
    obtain ⟨r249_6, cr249_6, h⟩ := bindS h
    rcases iteS h with ⟨b249_25, h⟩ | ⟨b249_25, h⟩
    · obtain ⟨r249_7, cr249_7, h⟩ := bindS h
      obtain ⟨r249_8, cr249_8, h⟩ := bindS h
      obtain ⟨r249_9, cr249_9, h⟩ := bindS h
      obtain ⟨r249_10, cr249_10, h⟩ := bindS h
      rcases iteS h with ⟨b249_35, h⟩ | ⟨b249_35, h⟩
      · obtain ⟨r249_11, cr249_11, h⟩ := bindS h
        obtain ⟨r249_12, cr249_12, h⟩ := bindS h
        obtain ⟨r249_13, cr249_13, h⟩ := bindS h
        obtain ⟨r249_14, cr249_14, h⟩ := bindS h
        rcases iteS h with ⟨b249_48, h⟩ | ⟨b249_48, h⟩
        · obtain ⟨r249_15, cr249_15, h⟩ := bindS h
          have h := Option.some.inj h
          subst h
          exact At.fin hm ht ⟨[(2, .call [] [] (f21_opt_Key_Option_out r249_0)), (13, .call [] [] (f22_broughamref08_Key_out r249_1)), (14, .call [] [] (f20_broughamlaw08_is_out r249_2)), (15, .b true), (18, .call [] [] (f23_opt_Join_Option_out r249_3)), (21, .call [] [] (f25_broughamlaw08_join_out r249_4)), (22, .call [] [] (f24_broughamref08_Join_out r249_5)), (23, .call [] [] (f20_broughamlaw08_is_out r249_6)), (25, .b true), (28, .call [] [] (f26_opt_Data_Option_out r249_7)), (31, .call [] [] (f28_broughamlaw08_data_out r249_8)), (32, .call [] [] (f27_broughamref08_Data_out r249_9)), (33, .call [] [] (f20_broughamlaw08_is_out r249_10)), (35, .b true), (38, .call [] [] (f29_opt_Word_Option_out r249_11)), (44, .call [] [] (f31_broughamlaw08_word_out r249_12)), (45, .call [] [] (f30_broughamref08_Word_out r249_13)), (46, .call [] [] (f20_broughamlaw08_is_out r249_14)), (48, .b true), (49, .call [] [] (f19_broughamlaw08_alive_out r249_15))], [], [], [2], []⟩ [FnOK Go.Proofs.Try.prog 21 (f21_opt_Key_Option_in x_0 x_1 x_2) (f21_opt_Key_Option_out r249_0), FnOK Go.Proofs.Try.prog 22 (f22_broughamref08_Key_in x_0 x_2 x_1) (f22_broughamref08_Key_out r249_1), FnOK Go.Proofs.Try.prog 20 (f20_broughamlaw08_is_in r249_0.1 r249_0.2 1 r249_1) (f20_broughamlaw08_is_out r249_2), r249_2 = true, FnOK Go.Proofs.Try.prog 23 (f23_opt_Join_Option_in x_3 x_4 x_5 x_6 x_7 x_8) (f23_opt_Join_Option_out r249_3), FnOK Go.Proofs.Try.prog 25 (f25_broughamlaw08_join_in x_3 x_4 x_5 x_6 x_7 x_8) (f25_broughamlaw08_join_out r249_4), FnOK Go.Proofs.Try.prog 24 (f24_broughamref08_Join_in r249_4.1 r249_4.2.1 r249_4.2.2.1 r249_4.2.2.2.1 r249_4.2.2.2.2.1 r249_4.2.2.2.2.2) (f24_broughamref08_Join_out r249_5), FnOK Go.Proofs.Try.prog 20 (f20_broughamlaw08_is_in r249_3.1 r249_3.2 2 r249_5) (f20_broughamlaw08_is_out r249_6), r249_6 = true, FnOK Go.Proofs.Try.prog 26 (f26_opt_Data_Option_in x_9 x_10 x_11 x_12 x_13 x_14) (f26_opt_Data_Option_out r249_7), FnOK Go.Proofs.Try.prog 28 (f28_broughamlaw08_data_in x_9 x_10 x_11 x_12 x_13 x_14) (f28_broughamlaw08_data_out r249_8), FnOK Go.Proofs.Try.prog 27 (f27_broughamref08_Data_in r249_8.1 r249_8.2.1 r249_8.2.2.1 r249_8.2.2.2.1 r249_8.2.2.2.2.1 r249_8.2.2.2.2.2) (f27_broughamref08_Data_out r249_9), FnOK Go.Proofs.Try.prog 20 (f20_broughamlaw08_is_in r249_7.1 r249_7.2 3 r249_9) (f20_broughamlaw08_is_out r249_10), r249_10 = true, FnOK Go.Proofs.Try.prog 29 (f29_opt_Word_Option_in x_15 x_16 x_17 x_18 x_19 x_20) (f29_opt_Word_Option_out r249_11), FnOK Go.Proofs.Try.prog 31 (f31_broughamlaw08_word_in x_15 x_16 x_17 x_18 x_19 x_20) (f31_broughamlaw08_word_out r249_12), FnOK Go.Proofs.Try.prog 30 (f30_broughamref08_Word_in r249_12.1 r249_12.2.1 r249_12.2.2.1 r249_12.2.2.2.1 r249_12.2.2.2.2) (f30_broughamref08_Word_out r249_13), FnOK Go.Proofs.Try.prog 20 (f20_broughamlaw08_is_in r249_11.1 r249_11.2 x_15 r249_13) (f20_broughamlaw08_is_out r249_14), r249_14 = true, FnOK Go.Proofs.Try.prog 19 (f19_broughamlaw08_alive_in) (f19_broughamlaw08_alive_out r249_15)] (by kernel_rfl) ⟨(f21_opt_Key_Option_ok n x_0 x_1 x_2 r249_0 cr249_0), (f22_broughamref08_Key_ok n x_0 x_2 x_1 r249_1 cr249_1), (f20_broughamlaw08_is_ok r249_0.1 r249_0.2 1 r249_1 r249_2 cr249_2), b249_15, (f23_opt_Join_Option_ok n x_3 x_4 x_5 x_6 x_7 x_8 r249_3 cr249_3), (f25_broughamlaw08_join_ok x_3 x_4 x_5 x_6 x_7 x_8 r249_4 cr249_4), (f24_broughamref08_Join_ok n r249_4.1 r249_4.2.1 r249_4.2.2.1 r249_4.2.2.2.1 r249_4.2.2.2.2.1 r249_4.2.2.2.2.2 r249_5 cr249_5), (f20_broughamlaw08_is_ok r249_3.1 r249_3.2 2 r249_5 r249_6 cr249_6), b249_25, (f26_opt_Data_Option_ok n x_9 x_10 x_11 x_12 x_13 x_14 r249_7 cr249_7), (f28_broughamlaw08_data_ok x_9 x_10 x_11 x_12 x_13 x_14 r249_8 cr249_8), (f27_broughamref08_Data_ok n r249_8.1 r249_8.2.1 r249_8.2.2.1 r249_8.2.2.2.1 r249_8.2.2.2.2.1 r249_8.2.2.2.2.2 r249_9 cr249_9), (f20_broughamlaw08_is_ok r249_7.1 r249_7.2 3 r249_9 r249_10 cr249_10), b249_35, (f29_opt_Word_Option_ok n x_15 x_16 x_17 x_18 x_19 x_20 r249_11 cr249_11), (f31_broughamlaw08_word_ok x_15 x_16 x_17 x_18 x_19 x_20 r249_12 cr249_12), (f30_broughamref08_Word_ok n r249_12.1 r249_12.2.1 r249_12.2.2.1 r249_12.2.2.2.1 r249_12.2.2.2.2 r249_13 cr249_13), (f20_broughamlaw08_is_ok r249_11.1 r249_11.2 x_15 r249_13 r249_14 cr249_14), b249_48, (f19_broughamlaw08_alive_ok n r249_15 cr249_15), trivial⟩
        · have h := Option.some.inj h
          subst h
          exact At.fin hm ht ⟨[(2, .call [] [] (f21_opt_Key_Option_out r249_0)), (13, .call [] [] (f22_broughamref08_Key_out r249_1)), (14, .call [] [] (f20_broughamlaw08_is_out r249_2)), (15, .b true), (18, .call [] [] (f23_opt_Join_Option_out r249_3)), (21, .call [] [] (f25_broughamlaw08_join_out r249_4)), (22, .call [] [] (f24_broughamref08_Join_out r249_5)), (23, .call [] [] (f20_broughamlaw08_is_out r249_6)), (25, .b true), (28, .call [] [] (f26_opt_Data_Option_out r249_7)), (31, .call [] [] (f28_broughamlaw08_data_out r249_8)), (32, .call [] [] (f27_broughamref08_Data_out r249_9)), (33, .call [] [] (f20_broughamlaw08_is_out r249_10)), (35, .b true), (38, .call [] [] (f29_opt_Word_Option_out r249_11)), (44, .call [] [] (f31_broughamlaw08_word_out r249_12)), (45, .call [] [] (f30_broughamref08_Word_out r249_13)), (46, .call [] [] (f20_broughamlaw08_is_out r249_14)), (48, .b false)], [], [], [2], []⟩ [FnOK Go.Proofs.Try.prog 21 (f21_opt_Key_Option_in x_0 x_1 x_2) (f21_opt_Key_Option_out r249_0), FnOK Go.Proofs.Try.prog 22 (f22_broughamref08_Key_in x_0 x_2 x_1) (f22_broughamref08_Key_out r249_1), FnOK Go.Proofs.Try.prog 20 (f20_broughamlaw08_is_in r249_0.1 r249_0.2 1 r249_1) (f20_broughamlaw08_is_out r249_2), r249_2 = true, FnOK Go.Proofs.Try.prog 23 (f23_opt_Join_Option_in x_3 x_4 x_5 x_6 x_7 x_8) (f23_opt_Join_Option_out r249_3), FnOK Go.Proofs.Try.prog 25 (f25_broughamlaw08_join_in x_3 x_4 x_5 x_6 x_7 x_8) (f25_broughamlaw08_join_out r249_4), FnOK Go.Proofs.Try.prog 24 (f24_broughamref08_Join_in r249_4.1 r249_4.2.1 r249_4.2.2.1 r249_4.2.2.2.1 r249_4.2.2.2.2.1 r249_4.2.2.2.2.2) (f24_broughamref08_Join_out r249_5), FnOK Go.Proofs.Try.prog 20 (f20_broughamlaw08_is_in r249_3.1 r249_3.2 2 r249_5) (f20_broughamlaw08_is_out r249_6), r249_6 = true, FnOK Go.Proofs.Try.prog 26 (f26_opt_Data_Option_in x_9 x_10 x_11 x_12 x_13 x_14) (f26_opt_Data_Option_out r249_7), FnOK Go.Proofs.Try.prog 28 (f28_broughamlaw08_data_in x_9 x_10 x_11 x_12 x_13 x_14) (f28_broughamlaw08_data_out r249_8), FnOK Go.Proofs.Try.prog 27 (f27_broughamref08_Data_in r249_8.1 r249_8.2.1 r249_8.2.2.1 r249_8.2.2.2.1 r249_8.2.2.2.2.1 r249_8.2.2.2.2.2) (f27_broughamref08_Data_out r249_9), FnOK Go.Proofs.Try.prog 20 (f20_broughamlaw08_is_in r249_7.1 r249_7.2 3 r249_9) (f20_broughamlaw08_is_out r249_10), r249_10 = true, FnOK Go.Proofs.Try.prog 29 (f29_opt_Word_Option_in x_15 x_16 x_17 x_18 x_19 x_20) (f29_opt_Word_Option_out r249_11), FnOK Go.Proofs.Try.prog 31 (f31_broughamlaw08_word_in x_15 x_16 x_17 x_18 x_19 x_20) (f31_broughamlaw08_word_out r249_12), FnOK Go.Proofs.Try.prog 30 (f30_broughamref08_Word_in r249_12.1 r249_12.2.1 r249_12.2.2.1 r249_12.2.2.2.1 r249_12.2.2.2.2) (f30_broughamref08_Word_out r249_13), FnOK Go.Proofs.Try.prog 20 (f20_broughamlaw08_is_in r249_11.1 r249_11.2 x_15 r249_13) (f20_broughamlaw08_is_out r249_14), r249_14 = false] (by kernel_rfl) ⟨(f21_opt_Key_Option_ok n x_0 x_1 x_2 r249_0 cr249_0), (f22_broughamref08_Key_ok n x_0 x_2 x_1 r249_1 cr249_1), (f20_broughamlaw08_is_ok r249_0.1 r249_0.2 1 r249_1 r249_2 cr249_2), b249_15, (f23_opt_Join_Option_ok n x_3 x_4 x_5 x_6 x_7 x_8 r249_3 cr249_3), (f25_broughamlaw08_join_ok x_3 x_4 x_5 x_6 x_7 x_8 r249_4 cr249_4), (f24_broughamref08_Join_ok n r249_4.1 r249_4.2.1 r249_4.2.2.1 r249_4.2.2.2.1 r249_4.2.2.2.2.1 r249_4.2.2.2.2.2 r249_5 cr249_5), (f20_broughamlaw08_is_ok r249_3.1 r249_3.2 2 r249_5 r249_6 cr249_6), b249_25, (f26_opt_Data_Option_ok n x_9 x_10 x_11 x_12 x_13 x_14 r249_7 cr249_7), (f28_broughamlaw08_data_ok x_9 x_10 x_11 x_12 x_13 x_14 r249_8 cr249_8), (f27_broughamref08_Data_ok n r249_8.1 r249_8.2.1 r249_8.2.2.1 r249_8.2.2.2.1 r249_8.2.2.2.2.1 r249_8.2.2.2.2.2 r249_9 cr249_9), (f20_broughamlaw08_is_ok r249_7.1 r249_7.2 3 r249_9 r249_10 cr249_10), b249_35, (f29_opt_Word_Option_ok n x_15 x_16 x_17 x_18 x_19 x_20 r249_11 cr249_11), (f31_broughamlaw08_word_ok x_15 x_16 x_17 x_18 x_19 x_20 r249_12 cr249_12), (f30_broughamref08_Word_ok n r249_12.1 r249_12.2.1 r249_12.2.2.1 r249_12.2.2.2.1 r249_12.2.2.2.2 r249_13 cr249_13), (f20_broughamlaw08_is_ok r249_11.1 r249_11.2 x_15 r249_13 r249_14 cr249_14), b249_48, trivial⟩
      · have h := Option.some.inj h
        subst h
        exact At.fin hm ht ⟨[(2, .call [] [] (f21_opt_Key_Option_out r249_0)), (13, .call [] [] (f22_broughamref08_Key_out r249_1)), (14, .call [] [] (f20_broughamlaw08_is_out r249_2)), (15, .b true), (18, .call [] [] (f23_opt_Join_Option_out r249_3)), (21, .call [] [] (f25_broughamlaw08_join_out r249_4)), (22, .call [] [] (f24_broughamref08_Join_out r249_5)), (23, .call [] [] (f20_broughamlaw08_is_out r249_6)), (25, .b true), (28, .call [] [] (f26_opt_Data_Option_out r249_7)), (31, .call [] [] (f28_broughamlaw08_data_out r249_8)), (32, .call [] [] (f27_broughamref08_Data_out r249_9)), (33, .call [] [] (f20_broughamlaw08_is_out r249_10)), (35, .b false)], [], [], [2], []⟩ [FnOK Go.Proofs.Try.prog 21 (f21_opt_Key_Option_in x_0 x_1 x_2) (f21_opt_Key_Option_out r249_0), FnOK Go.Proofs.Try.prog 22 (f22_broughamref08_Key_in x_0 x_2 x_1) (f22_broughamref08_Key_out r249_1), FnOK Go.Proofs.Try.prog 20 (f20_broughamlaw08_is_in r249_0.1 r249_0.2 1 r249_1) (f20_broughamlaw08_is_out r249_2), r249_2 = true, FnOK Go.Proofs.Try.prog 23 (f23_opt_Join_Option_in x_3 x_4 x_5 x_6 x_7 x_8) (f23_opt_Join_Option_out r249_3), FnOK Go.Proofs.Try.prog 25 (f25_broughamlaw08_join_in x_3 x_4 x_5 x_6 x_7 x_8) (f25_broughamlaw08_join_out r249_4), FnOK Go.Proofs.Try.prog 24 (f24_broughamref08_Join_in r249_4.1 r249_4.2.1 r249_4.2.2.1 r249_4.2.2.2.1 r249_4.2.2.2.2.1 r249_4.2.2.2.2.2) (f24_broughamref08_Join_out r249_5), FnOK Go.Proofs.Try.prog 20 (f20_broughamlaw08_is_in r249_3.1 r249_3.2 2 r249_5) (f20_broughamlaw08_is_out r249_6), r249_6 = true, FnOK Go.Proofs.Try.prog 26 (f26_opt_Data_Option_in x_9 x_10 x_11 x_12 x_13 x_14) (f26_opt_Data_Option_out r249_7), FnOK Go.Proofs.Try.prog 28 (f28_broughamlaw08_data_in x_9 x_10 x_11 x_12 x_13 x_14) (f28_broughamlaw08_data_out r249_8), FnOK Go.Proofs.Try.prog 27 (f27_broughamref08_Data_in r249_8.1 r249_8.2.1 r249_8.2.2.1 r249_8.2.2.2.1 r249_8.2.2.2.2.1 r249_8.2.2.2.2.2) (f27_broughamref08_Data_out r249_9), FnOK Go.Proofs.Try.prog 20 (f20_broughamlaw08_is_in r249_7.1 r249_7.2 3 r249_9) (f20_broughamlaw08_is_out r249_10), r249_10 = false] (by kernel_rfl) ⟨(f21_opt_Key_Option_ok n x_0 x_1 x_2 r249_0 cr249_0), (f22_broughamref08_Key_ok n x_0 x_2 x_1 r249_1 cr249_1), (f20_broughamlaw08_is_ok r249_0.1 r249_0.2 1 r249_1 r249_2 cr249_2), b249_15, (f23_opt_Join_Option_ok n x_3 x_4 x_5 x_6 x_7 x_8 r249_3 cr249_3), (f25_broughamlaw08_join_ok x_3 x_4 x_5 x_6 x_7 x_8 r249_4 cr249_4), (f24_broughamref08_Join_ok n r249_4.1 r249_4.2.1 r249_4.2.2.1 r249_4.2.2.2.1 r249_4.2.2.2.2.1 r249_4.2.2.2.2.2 r249_5 cr249_5), (f20_broughamlaw08_is_ok r249_3.1 r249_3.2 2 r249_5 r249_6 cr249_6), b249_25, (f26_opt_Data_Option_ok n x_9 x_10 x_11 x_12 x_13 x_14 r249_7 cr249_7), (f28_broughamlaw08_data_ok x_9 x_10 x_11 x_12 x_13 x_14 r249_8 cr249_8), (f27_broughamref08_Data_ok n r249_8.1 r249_8.2.1 r249_8.2.2.1 r249_8.2.2.2.1 r249_8.2.2.2.2.1 r249_8.2.2.2.2.2 r249_9 cr249_9), (f20_broughamlaw08_is_ok r249_7.1 r249_7.2 3 r249_9 r249_10 cr249_10), b249_35, trivial⟩
    · have h := Option.some.inj h
      subst h
      exact At.fin hm ht ⟨[(2, .call [] [] (f21_opt_Key_Option_out r249_0)), (13, .call [] [] (f22_broughamref08_Key_out r249_1)), (14, .call [] [] (f20_broughamlaw08_is_out r249_2)), (15, .b true), (18, .call [] [] (f23_opt_Join_Option_out r249_3)), (21, .call [] [] (f25_broughamlaw08_join_out r249_4)), (22, .call [] [] (f24_broughamref08_Join_out r249_5)), (23, .call [] [] (f20_broughamlaw08_is_out r249_6)), (25, .b false)], [], [], [2], []⟩ [FnOK Go.Proofs.Try.prog 21 (f21_opt_Key_Option_in x_0 x_1 x_2) (f21_opt_Key_Option_out r249_0), FnOK Go.Proofs.Try.prog 22 (f22_broughamref08_Key_in x_0 x_2 x_1) (f22_broughamref08_Key_out r249_1), FnOK Go.Proofs.Try.prog 20 (f20_broughamlaw08_is_in r249_0.1 r249_0.2 1 r249_1) (f20_broughamlaw08_is_out r249_2), r249_2 = true, FnOK Go.Proofs.Try.prog 23 (f23_opt_Join_Option_in x_3 x_4 x_5 x_6 x_7 x_8) (f23_opt_Join_Option_out r249_3), FnOK Go.Proofs.Try.prog 25 (f25_broughamlaw08_join_in x_3 x_4 x_5 x_6 x_7 x_8) (f25_broughamlaw08_join_out r249_4), FnOK Go.Proofs.Try.prog 24 (f24_broughamref08_Join_in r249_4.1 r249_4.2.1 r249_4.2.2.1 r249_4.2.2.2.1 r249_4.2.2.2.2.1 r249_4.2.2.2.2.2) (f24_broughamref08_Join_out r249_5), FnOK Go.Proofs.Try.prog 20 (f20_broughamlaw08_is_in r249_3.1 r249_3.2 2 r249_5) (f20_broughamlaw08_is_out r249_6), r249_6 = false] (by kernel_rfl) ⟨(f21_opt_Key_Option_ok n x_0 x_1 x_2 r249_0 cr249_0), (f22_broughamref08_Key_ok n x_0 x_2 x_1 r249_1 cr249_1), (f20_broughamlaw08_is_ok r249_0.1 r249_0.2 1 r249_1 r249_2 cr249_2), b249_15, (f23_opt_Join_Option_ok n x_3 x_4 x_5 x_6 x_7 x_8 r249_3 cr249_3), (f25_broughamlaw08_join_ok x_3 x_4 x_5 x_6 x_7 x_8 r249_4 cr249_4), (f24_broughamref08_Join_ok n r249_4.1 r249_4.2.1 r249_4.2.2.1 r249_4.2.2.2.1 r249_4.2.2.2.2.1 r249_4.2.2.2.2.2 r249_5 cr249_5), (f20_broughamlaw08_is_ok r249_3.1 r249_3.2 2 r249_5 r249_6 cr249_6), b249_25, trivial⟩
  · have h := Option.some.inj h
    subst h
    exact At.fin hm ht ⟨[(2, .call [] [] (f21_opt_Key_Option_out r249_0)), (13, .call [] [] (f22_broughamref08_Key_out r249_1)), (14, .call [] [] (f20_broughamlaw08_is_out r249_2)), (15, .b false)], [], [], [2], []⟩ [FnOK Go.Proofs.Try.prog 21 (f21_opt_Key_Option_in x_0 x_1 x_2) (f21_opt_Key_Option_out r249_0), FnOK Go.Proofs.Try.prog 22 (f22_broughamref08_Key_in x_0 x_2 x_1) (f22_broughamref08_Key_out r249_1), FnOK Go.Proofs.Try.prog 20 (f20_broughamlaw08_is_in r249_0.1 r249_0.2 1 r249_1) (f20_broughamlaw08_is_out r249_2), r249_2 = false] (by kernel_rfl) ⟨(f21_opt_Key_Option_ok n x_0 x_1 x_2 r249_0 cr249_0), (f22_broughamref08_Key_ok n x_0 x_2 x_1 r249_1 cr249_1), (f20_broughamlaw08_is_ok r249_0.1 r249_0.2 1 r249_1 r249_2 cr249_2), b249_15, trivial⟩
/-! brougham/broughamref02.Get -/
def f82_broughamref02_Get_in (b : List Int) (bytes : Int) : Inn := ⟨[.c (.d (.sl (.int .u8) b)), .c (.d (.int .i64 bytes))], [], [], 0⟩
def f82_broughamref02_Get_out (r : Int × List Int × Bool) : Out := ⟨.tup [.c (.d (.int .u64 r.1)), .c (.d (.sl (.int .u8) r.2.1)), .c (.d (.bool r.2.2))], [], [], 0⟩
def f82_broughamref02_Get_L5 : Nat → (List Int) → Int → Int → Int → Option (List Int × Int × Int)
  | 0, _, _, _, _ => none
  | n + 1, b, bytes, n_, i =>
    if (decide ((i : Int) < bytes)) = true then
      if (0 : Int) ≤ i ∧ i < (((b).length : Nat) : Int) then
      f82_broughamref02_Get_L5 n b bytes (IntKind.wrap .u64 ((IntKind.wrap .u64 (n_ * 256)) + (IntKind.wrap .u64 (b.getD i.toNat 0)))) (IntKind.wrap .i64 (i + 1))
      else none
    else
      some ((b, bytes, n_))
def f82_broughamref02_Get_L5_k (e : List Int × Int × Int) (o : Out) : Prop := At Go.Proofs.Try.prog Go.Proofs.Try.f82 0 8 ⟨[(0, .one (.c (.d (.sl (.int .u8) e.1)))), (1, .one (.c (.d (.int .i64 e.2.1)))), (7, .one (.c (.d (.int .u64 e.2.2))))], [], [], 0⟩ o
theorem f82_broughamref02_Get_L5_ok (n : Nat) : ∀ (b : List Int) (bytes : Int) (n_ : Int) (i : Int) (w : List Int × Int × Int) (h : f82_broughamref02_Get_L5 n b bytes n_ i = some w) (o : Out) (hk : f82_broughamref02_Get_L5_k w o), At Go.Proofs.Try.prog Go.Proofs.Try.f82 0 5 ⟨[(0, .one (.c (.d (.sl (.int .u8) b)))), (1, .one (.c (.d (.int .i64 bytes)))), (7, .one (.c (.d (.int .u64 n_)))), (8, .one (.c (.d (.int .i64 i))))], [], [], 0⟩ o := by
  induction n with
  | zero => intro b bytes n_ i w h; rw [f82_broughamref02_Get_L5] at h; cases h
  | succ n ih =>
    intro b bytes n_ i w h o hk
    rw [f82_broughamref02_Get_L5] at h
    rcases iteS h with ⟨b354_e0, h⟩ | ⟨b354_e0, h⟩
    · refine At.step hm ht ⟨[], [true], [], [0, 1, 7, 8], []⟩ 7 ⟨[(0, .one (.c (.d (.sl (.int .u8) b)))), (1, .one (.c (.d (.int .i64 bytes)))), (7, .one (.c (.d (.int .u64 n_)))), (8, .one (.c (.d (.int .i64 i))))], [], [], 0⟩ [(decide ((i : Int) < bytes)) = true] (by kernel_rfl) ⟨b354_e0, trivial⟩ ?_
      obtain ⟨g355_0, h⟩ := ifS h
      refine At.step hm ht ⟨[], [], [], [0, 1, 7, 8], []⟩ 6 ⟨[(0, .one (.c (.d (.sl (.int .u8) b)))), (1, .one (.c (.d (.int .i64 bytes)))), (7, .one (.c (.d (.int .u64 (IntKind.wrap .u64 ((IntKind.wrap .u64 (n_ * 256)) + (IntKind.wrap .u64 (b.getD i.toNat 0)))))))), (8, .one (.c (.d (.int .i64 i))))], [], [], 0⟩ [(0 : Int) ≤ i ∧ i < (((b).length : Nat) : Int)] (by kernel_rfl) ⟨g355_0, trivial⟩ ?_
      refine At.step hm ht ⟨[], [], [], [0, 1, 7, 8], []⟩ 5 ⟨[(0, .one (.c (.d (.sl (.int .u8) b)))), (1, .one (.c (.d (.int .i64 bytes)))), (7, .one (.c (.d (.int .u64 (IntKind.wrap .u64 ((IntKind.wrap .u64 (n_ * 256)) + (IntKind.wrap .u64 (b.getD i.toNat 0)))))))), (8, .one (.c (.d (.int .i64 (IntKind.wrap .i64 (i + 1))))))], [], [], 0⟩ [] (by kernel_rfl) trivial ?_
      exact ih b bytes (IntKind.wrap .u64 ((IntKind.wrap .u64 (n_ * 256)) + (IntKind.wrap .u64 (b.getD i.toNat 0)))) (IntKind.wrap .i64 (i + 1)) w h o hk
    · refine At.step hm ht ⟨[], [false], [], [0, 1, 7], []⟩ 8 ⟨[(0, .one (.c (.d (.sl (.int .u8) b)))), (1, .one (.c (.d (.int .i64 bytes)))), (7, .one (.c (.d (.int .u64 n_))))], [], [], 0⟩ [(decide ((i : Int) < bytes)) = false] (by kernel_rfl) ⟨b354_e0, trivial⟩ ?_
      have h := Option.some.inj h
      subst h
      exact hk
def f82_broughamref02_Get (n : Nat) (b : List Int) (bytes : Int) : Option (Int × List Int × Bool) :=
  if (decide ((bytes : Int) < 1)) = true then
    some (0, [], false)
  else
    if (decide ((bytes : Int) > 8)) = true then
      some (0, [], false)
    else
      if (decide ((((b.length : Nat) : Int) : Int) < bytes)) = true then
        some (0, [], false)
      else
        (f82_broughamref02_Get_L5 n b bytes 0 0).bind fun w357 =>
        if cutOk w357.1.length (some w357.2.1) none none then
        some (w357.2.2, ((w357.1.take w357.1.length).drop w357.2.1.toNat), true)
        else none
theorem f82_broughamref02_Get_ok (n : Nat) (b : List Int) (bytes : Int) (r : Int × List Int × Bool) (h : f82_broughamref02_Get n b bytes = some r) : FnOK Go.Proofs.Try.prog 82 (f82_broughamref02_Get_in b bytes) (f82_broughamref02_Get_out r) := by
  unfold f82_broughamref02_Get at h
  refine At.fn (r := 0) Go.Proofs.Try.func82 rfl (by kernel_rfl) rfl rfl (by kernel_rfl) ?_
  show At Go.Proofs.Try.prog Go.Proofs.Try.f82 0 0 ⟨[(0, .one (.c (.d (.sl (.int .u8) b)))), (1, .one (.c (.d (.int .i64 bytes))))], [], [], 0⟩ _
  refine At.step hm ht ⟨[], [], [], [0, 1], []⟩ 1 ⟨[(0, .one (.c (.d (.sl (.int .u8) b)))), (1, .one (.c (.d (.int .i64 bytes))))], [], [], 0⟩ [] (by kernel_rfl) trivial ?_
  rcases iteS h with ⟨b348_2, h⟩ | ⟨b348_2, h⟩
  · refine At.step hm ht ⟨[(2, .b true)], [true], [], [], []⟩ 2 ⟨[], [], [], 0⟩ [(decide ((bytes : Int) < 1)) = true, true = true] (by kernel_rfl) ⟨b348_2, rfl, trivial⟩ ?_
    have h := Option.some.inj h
    subst h
    exact At.fin hm ht ⟨[], [], [.nil false 5 0 (.int .u8) none], [4, 5, 6], []⟩ [] (by kernel_rfl) trivial
  · rcases iteS h with ⟨b348_6, h⟩ | ⟨b348_6, h⟩
    · refine At.step hm ht ⟨[(2, .b false), (6, .b true)], [true], [], [], []⟩ 2 ⟨[], [], [], 0⟩ [(decide ((bytes : Int) < 1)) = false, (decide ((bytes : Int) > 8)) = true, true = true] (by kernel_rfl) ⟨b348_2, b348_6, rfl, trivial⟩ ?_
      have h := Option.some.inj h
      subst h
      exact At.fin hm ht ⟨[], [], [.nil false 5 0 (.int .u8) none], [4, 5, 6], []⟩ [] (by kernel_rfl) trivial
    · rcases iteS h with ⟨b348_e0, h⟩ | ⟨b348_e0, h⟩
      · refine At.step hm ht ⟨[(2, .b false), (6, .b false)], [true], [], [], []⟩ 2 ⟨[], [], [], 0⟩ [(decide ((bytes : Int) < 1)) = false, (decide ((bytes : Int) > 8)) = false, (decide ((((b.length : Nat) : Int) : Int) < bytes)) = true] (by kernel_rfl) ⟨b348_2, b348_6, b348_e0, trivial⟩ ?_
        have h := Option.some.inj h
        subst h
        exact At.fin hm ht ⟨[], [], [.nil false 5 0 (.int .u8) none], [4, 5, 6], []⟩ [] (by kernel_rfl) trivial
      · refine At.step hm ht ⟨[(2, .b false), (6, .b false)], [false], [], [0, 1], []⟩ 3 ⟨[(0, .one (.c (.d (.sl (.int .u8) b)))), (1, .one (.c (.d (.int .i64 bytes))))], [], [], 0⟩ [(decide ((bytes : Int) < 1)) = false, (decide ((bytes : Int) > 8)) = false, (decide ((((b.length : Nat) : Int) : Int) < bytes)) = false] (by kernel_rfl) ⟨b348_2, b348_6, b348_e0, trivial⟩ ?_
        refine At.step hm ht ⟨[], [], [], [0, 1, 7], []⟩ 4 ⟨[(0, .one (.c (.d (.sl (.int .u8) b)))), (1, .one (.c (.d (.int .i64 bytes)))), (7, .one (.c (.d (.int .u64 0))))], [], [], 0⟩ [] (by kernel_rfl) trivial ?_
        refine At.step hm ht ⟨[], [], [], [0, 1, 7, 8], []⟩ 5 ⟨[(0, .one (.c (.d (.sl (.int .u8) b)))), (1, .one (.c (.d (.int .i64 bytes)))), (7, .one (.c (.d (.int .u64 0)))), (8, .one (.c (.d (.int .i64 0))))], [], [], 0⟩ [] (by kernel_rfl) trivial ?_
        obtain ⟨w357, cw357, h⟩ := bindS h
        refine f82_broughamref02_Get_L5_ok n b bytes 0 0 w357 cw357 _ ?_
        show At Go.Proofs.Try.prog Go.Proofs.Try.f82 0 8 ⟨[(0, .one (.c (.d (.sl (.int .u8) w357.1)))), (1, .one (.c (.d (.int .i64 w357.2.1)))), (7, .one (.c (.d (.int .u64 w357.2.2))))], [], [], 0⟩ _
        obtain ⟨g359_0, h⟩ := ifS h
        have h := Option.some.inj h
        subst h
        exact At.fin hm ht ⟨[], [], [], [4, 5, 6], []⟩ [cutOk w357.1.length (some w357.2.1) none none] (by kernel_rfl) ⟨g359_0, trivial⟩
/-! brougham/broughamref08.ParseKey -/
def f33_broughamref08_ParseKey_in (o__0 : Int) (o__1 : List Int) : Inn := ⟨[.agg [.d (.int .u8 o__0), .d (.sl (.int .u8) o__1)]], [], [], 0⟩
def f33_broughamref08_ParseKey_out (r : Int × Int × Bool × Bool) : Out := ⟨.tup [.c (.d (.int .u64 r.1)), .c (.d (.int .u64 r.2.1)), .c (.d (.bool r.2.2.1)), .c (.d (.bool r.2.2.2))], [], [], 0⟩
def f33_broughamref08_ParseKey (n : Nat) (o__0 : Int) (o__1 : List Int) : Option (Int × Int × Bool × Bool) :=
  if ((o__0 : Int) != 1) = true then
    some (0, 0, false, false)
  else
    if ((((o__1.length : Nat) : Int) : Int) != 8) = true then
      if ((((o__1.length : Nat) : Int) : Int) != 16) = true then
        some (0, 0, false, false)
      else
        (f82_broughamref02_Get n o__1 8).bind fun r333_0 =>
        (f82_broughamref02_Get n r333_0.2.1 8).bind fun r360_0 =>
        some (r333_0.1, r360_0.1, r360_0.2.2, true)
    else
      (f82_broughamref02_Get n o__1 8).bind fun r362_0 =>
      (f82_broughamref02_Get n r362_0.2.1 8).bind fun r363_0 =>
      some (r362_0.1, r363_0.1, r363_0.2.2, true)
theorem f33_broughamref08_ParseKey_ok (n : Nat) (o__0 : Int) (o__1 : List Int) (r : Int × Int × Bool × Bool) (h : f33_broughamref08_ParseKey n o__0 o__1 = some r) : FnOK Go.Proofs.Try.prog 33 (f33_broughamref08_ParseKey_in o__0 o__1) (f33_broughamref08_ParseKey_out r) := by
  unfold f33_broughamref08_ParseKey at h
  refine At.fn (r := 0) Go.Proofs.Try.func33 rfl (by kernel_rfl) rfl rfl (by kernel_rfl) ?_
  show At Go.Proofs.Try.prog Go.Proofs.Try.f33 0 0 ⟨[(0, .one (.agg [.d (.int .u8 o__0), .d (.sl (.int .u8) o__1)]))], [], [], 0⟩ _
  refine At.step hm ht ⟨[], [], [], [1], [0]⟩ 1 ⟨[(1, .one (.c (.ptr 0 0)))], [], [(0, [.d (.int .u8 o__0), .d (.sl (.int .u8) o__1)])], 1⟩ [] (by kernel_rfl) trivial ?_
  rcases iteS h with ⟨b330_3, h⟩ | ⟨b330_3, h⟩
  · refine At.step hm ht ⟨[(3, .b true)], [true], [], [], []⟩ 2 ⟨[], [], [], 0⟩ [((o__0 : Int) != 1) = true, true = true] (by kernel_rfl) ⟨b330_3, rfl, trivial⟩ ?_
    have h := Option.some.inj h
    subst h
    exact At.fin hm ht ⟨[], [], [], [2, 3, 4, 5], []⟩ [] (by kernel_rfl) trivial
  · rcases iteS h with ⟨b330_8, h⟩ | ⟨b330_8, h⟩
    · rcases iteS h with ⟨b330_e0, h⟩ | ⟨b330_e0, h⟩
      · refine At.step hm ht ⟨[(3, .b false), (8, .b true)], [true], [], [], []⟩ 2 ⟨[], [], [], 0⟩ [((o__0 : Int) != 1) = false, ((((o__1.length : Nat) : Int) : Int) != 8) = true, ((((o__1.length : Nat) : Int) : Int) != 16) = true] (by kernel_rfl) ⟨b330_3, b330_8, b330_e0, trivial⟩ ?_
        have h := Option.some.inj h
        subst h
        exact At.fin hm ht ⟨[], [], [], [2, 3, 4, 5], []⟩ [] (by kernel_rfl) trivial
      · refine At.step hm ht ⟨[(3, .b false), (8, .b true)], [false], [], [1], [0]⟩ 3 ⟨[(1, .one (.c (.ptr 0 0)))], [], [(0, [.d (.int .u8 o__0), .d (.sl (.int .u8) o__1)])], 1⟩ [((o__0 : Int) != 1) = false, ((((o__1.length : Nat) : Int) : Int) != 8) = true, ((((o__1.length : Nat) : Int) : Int) != 16) = false] (by kernel_rfl) ⟨b330_3, b330_8, b330_e0, trivial⟩ ?_
        obtain ⟨r333_0, cr333_0, h⟩ := bindS h
        refine At.step hm ht ⟨[(2, .call [] [] (f82_broughamref02_Get_out r333_0))], [], [], [6, 7], []⟩ 4 ⟨[(6, .one (.c (.d (.int .u64 r333_0.1)))), (7, .one (.c (.d (.sl (.int .u8) r333_0.2.1))))], [], [], 0⟩ [FnOK Go.Proofs.Try.prog 82 (f82_broughamref02_Get_in o__1 8) (f82_broughamref02_Get_out r333_0)] (by kernel_rfl) ⟨(f82_broughamref02_Get_ok n o__1 8 r333_0 cr333_0), trivial⟩ ?_
        obtain ⟨r360_0, cr360_0, h⟩ := bindS h
        refine At.step hm ht ⟨[(1, .call [] [] (f82_broughamref02_Get_out r360_0))], [], [], [6, 9, 11], []⟩ 5 ⟨[(6, .one (.c (.d (.int .u64 r333_0.1)))), (9, .one (.c (.d (.int .u64 r360_0.1)))), (11, .one (.c (.d (.bool r360_0.2.2))))], [], [], 0⟩ [FnOK Go.Proofs.Try.prog 82 (f82_broughamref02_Get_in r333_0.2.1 8) (f82_broughamref02_Get_out r360_0)] (by kernel_rfl) ⟨(f82_broughamref02_Get_ok n r333_0.2.1 8 r360_0 cr360_0), trivial⟩ ?_
        have h := Option.some.inj h
        subst h
        exact At.fin hm ht ⟨[], [], [], [2, 3, 4, 5], []⟩ [] (by kernel_rfl) trivial
    · refine At.step hm ht ⟨[(3, .b false), (8, .b false)], [false], [], [1], [0]⟩ 3 ⟨[(1, .one (.c (.ptr 0 0)))], [], [(0, [.d (.int .u8 o__0), .d (.sl (.int .u8) o__1)])], 1⟩ [((o__0 : Int) != 1) = false, ((((o__1.length : Nat) : Int) : Int) != 8) = false, false = false] (by kernel_rfl) ⟨b330_3, b330_8, rfl, trivial⟩ ?_
      obtain ⟨r362_0, cr362_0, h⟩ := bindS h
      refine At.step hm ht ⟨[(2, .call [] [] (f82_broughamref02_Get_out r362_0))], [], [], [6, 7], []⟩ 4 ⟨[(6, .one (.c (.d (.int .u64 r362_0.1)))), (7, .one (.c (.d (.sl (.int .u8) r362_0.2.1))))], [], [], 0⟩ [FnOK Go.Proofs.Try.prog 82 (f82_broughamref02_Get_in o__1 8) (f82_broughamref02_Get_out r362_0)] (by kernel_rfl) ⟨(f82_broughamref02_Get_ok n o__1 8 r362_0 cr362_0), trivial⟩ ?_
      obtain ⟨r363_0, cr363_0, h⟩ := bindS h
      refine At.step hm ht ⟨[(1, .call [] [] (f82_broughamref02_Get_out r363_0))], [], [], [6, 9, 11], []⟩ 5 ⟨[(6, .one (.c (.d (.int .u64 r362_0.1)))), (9, .one (.c (.d (.int .u64 r363_0.1)))), (11, .one (.c (.d (.bool r363_0.2.2))))], [], [], 0⟩ [FnOK Go.Proofs.Try.prog 82 (f82_broughamref02_Get_in r362_0.2.1 8) (f82_broughamref02_Get_out r363_0)] (by kernel_rfl) ⟨(f82_broughamref02_Get_ok n r362_0.2.1 8 r363_0 cr363_0), trivial⟩ ?_
      have h := Option.some.inj h
      subst h
      exact At.fin hm ht ⟨[], [], [], [2, 3, 4, 5], []⟩ [] (by kernel_rfl) trivial
/-! brougham/opt.ParseJoin -/
def f34_opt_ParseJoin_in (o__0 : Int) (o__1 : List Int) : Inn := ⟨[.agg [.d (.int .u8 o__0), .d (.sl (.int .u8) o__1)]], [], [], 0⟩
def f34_opt_ParseJoin_out (r : Bool × Int × Int × Int × Bool × Bool × Int) : Out := ⟨.tup [.agg [.d (.int .u32 r.2.1), .d (.int .u32 r.2.2.1), .d (.int .u8 r.2.2.2.1), .d (.bool r.2.2.2.2.1), .d (.bool r.2.2.2.2.2.1), .d (.int .u64 r.2.2.2.2.2.2)], .c (.d (.bool r.1))], [], [(0, [.d (.int .u32 r.2.1), .d (.int .u32 r.2.2.1), .d (.int .u8 r.2.2.2.1), .d (.bool r.2.2.2.2.1), .d (.bool r.2.2.2.2.2.1), .d (.int .u64 r.2.2.2.2.2.2)])], 1⟩
def f34_opt_ParseJoin (n : Nat) (o__0 : Int) (o__1 : List Int) : Option (Bool × Int × Int × Int × Bool × Bool × Int) :=
  (f83_pack_Get n o__1 [4, 4, 1, 1]).bind fun r372_0 =>
  if ((o__0 : Int) != 2) = true then
    some (false, 0, 0, 0, false, false, 0)
  else
    if (!r372_0.2.2) = true then
      some (false, 0, 0, 0, false, false, 0)
    else
      if (0 : Int) ≤ 3 ∧ 3 < (((r372_0.1).length : Nat) : Int) then
      if (decide (((r372_0.1.getD 3 0) : Int) > 1)) = true then
        some (false, 0, 0, 0, false, false, 0)
      else
        if (0 : Int) ≤ 0 ∧ 0 < (((r372_0.1).length : Nat) : Int) then
        if (0 : Int) ≤ 1 ∧ 1 < (((r372_0.1).length : Nat) : Int) then
        if (0 : Int) ≤ 2 ∧ 2 < (((r372_0.1).length : Nat) : Int) then
        if (0 : Int) ≤ 3 ∧ 3 < (((r372_0.1).length : Nat) : Int) then
        if ((((r372_0.2.1.length : Nat) : Int) : Int) == 0) = true then
          some (true, (IntKind.wrap .u32 (r372_0.1.getD 0 0)), (IntKind.wrap .u32 (r372_0.1.getD 1 0)), (IntKind.wrap .u8 (r372_0.1.getD 2 0)), (((r372_0.1.getD 3 0) : Int) == 1), false, 0)
        else
          (f81_pack_All n r372_0.2.1 [8]).bind fun r380_0 =>
          if (!r380_0.2) = true then
            some (false, 0, 0, 0, false, false, 0)
          else
            if (0 : Int) ≤ 0 ∧ 0 < (((r380_0.1).length : Nat) : Int) then
            some (true, (IntKind.wrap .u32 (r372_0.1.getD 0 0)), (IntKind.wrap .u32 (r372_0.1.getD 1 0)), (IntKind.wrap .u8 (r372_0.1.getD 2 0)), (((r372_0.1.getD 3 0) : Int) == 1), true, (r380_0.1.getD 0 0))
            else none
        else none
        else none
        else none
        else none
      else none
theorem f34_opt_ParseJoin_ok (n : Nat) (o__0 : Int) (o__1 : List Int) (r : Bool × Int × Int × Int × Bool × Bool × Int) (h : f34_opt_ParseJoin n o__0 o__1 = some r) : FnOK Go.Proofs.Try.prog 34 (f34_opt_ParseJoin_in o__0 o__1) (f34_opt_ParseJoin_out r) := by
  unfold f34_opt_ParseJoin at h
  refine At.fn (r := 0) Go.Proofs.Try.func34 rfl (by kernel_rfl) rfl rfl (by kernel_rfl) ?_
  show At Go.Proofs.Try.prog Go.Proofs.Try.f34 0 0 ⟨[(0, .one (.agg [.d (.int .u8 o__0), .d (.sl (.int .u8) o__1)]))], [], [], 0⟩ _
  refine At.step hm ht ⟨[], [], [], [1, 2], [0, 1]⟩ 1 ⟨[(1, .one (.c (.ptr 0 0))), (2, .one (.c (.ptr 1 0)))], [], [(0, [.d (.int .u8 o__0), .d (.sl (.int .u8) o__1)]), (1, [.d (.int .u32 0), .d (.int .u32 0), .d (.int .u8 0), .d (.bool false), .d (.bool false), .d (.int .u64 0)])], 2⟩ [] (by kernel_rfl) trivial ?_
  obtain ⟨r372_0, cr372_0, h⟩ := bindS h
  refine At.step hm ht ⟨[(3, .call [] [] (f83_pack_Get_out r372_0))], [], [], [1, 2, 4, 5, 6], [0, 1, 5, 6]⟩ 2 ⟨[(1, .one (.c (.ptr 0 0))), (2, .one (.c (.ptr 1 0))), (4, .one (.c (.own 2 (.int .u64) r372_0.1))), (5, .one (.c (.own 3 (.int .u8) r372_0.2.1))), (6, .one (.c (.d (.bool r372_0.2.2))))], [(2, some ⟨36, 0⟩), (3, some ⟨5, 0⟩)], [(0, [.d (.int .u8 o__0), .d (.sl (.int .u8) o__1)]), (1, [.d (.int .u32 0), .d (.int .u32 0), .d (.int .u8 0), .d (.bool false), .d (.bool false), .d (.int .u64 0)])], 4⟩ [FnOK Go.Proofs.Try.prog 83 (f83_pack_Get_in o__1 [4, 4, 1, 1]) (f83_pack_Get_out r372_0)] (by kernel_rfl) ⟨(f83_pack_Get_ok n o__1 [4, 4, 1, 1] r372_0 cr372_0), trivial⟩ ?_
  rcases iteS h with ⟨b373_3, h⟩ | ⟨b373_3, h⟩
  · refine At.step hm ht ⟨[(3, .b true)], [true], [], [2], [1]⟩ 3 ⟨[(2, .one (.c (.ptr 0 0)))], [], [(0, [.d (.int .u32 0), .d (.int .u32 0), .d (.int .u8 0), .d (.bool false), .d (.bool false), .d (.int .u64 0)])], 1⟩ [((o__0 : Int) != 2) = true, true = true] (by kernel_rfl) ⟨b373_3, rfl, trivial⟩ ?_
    have h := Option.some.inj h
    subst h
    exact At.fin hm ht ⟨[], [], [], [2, 3], [0]⟩ [0 + 6 ≤ 6] (by kernel_rfl) ⟨(by decide), trivial⟩
  · rcases iteS h with ⟨b373_7, h⟩ | ⟨b373_7, h⟩
    · refine At.step hm ht ⟨[(3, .b false), (7, .b true)], [true], [], [2], [1]⟩ 3 ⟨[(2, .one (.c (.ptr 0 0)))], [], [(0, [.d (.int .u32 0), .d (.int .u32 0), .d (.int .u8 0), .d (.bool false), .d (.bool false), .d (.int .u64 0)])], 1⟩ [((o__0 : Int) != 2) = false, (!r372_0.2.2) = true, true = true] (by kernel_rfl) ⟨b373_3, b373_7, rfl, trivial⟩ ?_
      have h := Option.some.inj h
      subst h
      exact At.fin hm ht ⟨[], [], [], [2, 3], [0]⟩ [0 + 6 ≤ 6] (by kernel_rfl) ⟨(by decide), trivial⟩
    · obtain ⟨g373_0, h⟩ := ifS h
      rcases iteS h with ⟨b373_e0, h⟩ | ⟨b373_e0, h⟩
      · refine At.step hm ht ⟨[(3, .b false), (7, .b false)], [true], [], [2], [1]⟩ 3 ⟨[(2, .one (.c (.ptr 0 0)))], [], [(0, [.d (.int .u32 0), .d (.int .u32 0), .d (.int .u8 0), .d (.bool false), .d (.bool false), .d (.int .u64 0)])], 1⟩ [((o__0 : Int) != 2) = false, (!r372_0.2.2) = false, (0 : Int) ≤ 3 ∧ 3 < (((r372_0.1).length : Nat) : Int), (decide (((r372_0.1.getD 3 0) : Int) > 1)) = true] (by kernel_rfl) ⟨b373_3, b373_7, g373_0, b373_e0, trivial⟩ ?_
        have h := Option.some.inj h
        subst h
        exact At.fin hm ht ⟨[], [], [], [2, 3], [0]⟩ [0 + 6 ≤ 6] (by kernel_rfl) ⟨(by decide), trivial⟩
      · refine At.step hm ht ⟨[(3, .b false), (7, .b false)], [false], [], [2, 4, 5], [1, 2, 3]⟩ 4 ⟨[(2, .one (.c (.ptr 0 0))), (4, .one (.c (.own 1 (.int .u64) r372_0.1))), (5, .one (.c (.own 2 (.int .u8) r372_0.2.1)))], [(1, some ⟨36, 0⟩), (2, some ⟨5, 0⟩)], [(0, [.d (.int .u32 0), .d (.int .u32 0), .d (.int .u8 0), .d (.bool false), .d (.bool false), .d (.int .u64 0)])], 3⟩ [((o__0 : Int) != 2) = false, (!r372_0.2.2) = false, (0 : Int) ≤ 3 ∧ 3 < (((r372_0.1).length : Nat) : Int), (decide (((r372_0.1.getD 3 0) : Int) > 1)) = false] (by kernel_rfl) ⟨b373_3, b373_7, g373_0, b373_e0, trivial⟩ ?_
        obtain ⟨g377_0, h⟩ := ifS h
        obtain ⟨g377_1, h⟩ := ifS h
        obtain ⟨g377_2, h⟩ := ifS h
        obtain ⟨g377_3, h⟩ := ifS h
        refine At.step hm ht ⟨[], [], [], [2, 5, 7], [0, 2, 20]⟩ 5 ⟨[(2, .one (.c (.ptr 0 0))), (5, .one (.c (.own 1 (.int .u8) r372_0.2.1))), (7, .one (.c (.ptr 2 0)))], [(1, some ⟨5, 0⟩)], [(0, [.d (.int .u32 0), .d (.int .u32 0), .d (.int .u8 0), .d (.bool false), .d (.bool false), .d (.int .u64 0)]), (2, [.d (.int .u32 (IntKind.wrap .u32 (r372_0.1.getD 0 0))), .d (.int .u32 (IntKind.wrap .u32 (r372_0.1.getD 1 0))), .d (.int .u8 (IntKind.wrap .u8 (r372_0.1.getD 2 0))), .d (.bool (((r372_0.1.getD 3 0) : Int) == 1)), .d (.bool false), .d (.int .u64 0)])], 3⟩ [(0 : Int) ≤ 0 ∧ 0 < (((r372_0.1).length : Nat) : Int), (0 : Int) ≤ 1 ∧ 1 < (((r372_0.1).length : Nat) : Int), (0 : Int) ≤ 2 ∧ 2 < (((r372_0.1).length : Nat) : Int), (0 : Int) ≤ 3 ∧ 3 < (((r372_0.1).length : Nat) : Int), 0 + 6 ≤ 6] (by kernel_rfl) ⟨g377_0, g377_1, g377_2, g377_3, (by decide), trivial⟩ ?_
        rcases iteS h with ⟨b378_e0, h⟩ | ⟨b378_e0, h⟩
        · refine At.step hm ht ⟨[], [true], [], [2, 7], [0, 2]⟩ 6 ⟨[(2, .one (.c (.ptr 0 0))), (7, .one (.c (.ptr 1 0)))], [], [(0, [.d (.int .u32 0), .d (.int .u32 0), .d (.int .u8 0), .d (.bool false), .d (.bool false), .d (.int .u64 0)]), (1, [.d (.int .u32 (IntKind.wrap .u32 (r372_0.1.getD 0 0))), .d (.int .u32 (IntKind.wrap .u32 (r372_0.1.getD 1 0))), .d (.int .u8 (IntKind.wrap .u8 (r372_0.1.getD 2 0))), .d (.bool (((r372_0.1.getD 3 0) : Int) == 1)), .d (.bool false), .d (.int .u64 0)])], 2⟩ [((((r372_0.2.1.length : Nat) : Int) : Int) == 0) = true] (by kernel_rfl) ⟨b378_e0, trivial⟩ ?_
          have h := Option.some.inj h
          subst h
          exact At.fin hm ht ⟨[], [], [], [2, 3], [0]⟩ [0 + 6 ≤ 6] (by kernel_rfl) ⟨(by decide), trivial⟩
        · refine At.step hm ht ⟨[], [false], [], [2, 5, 7], [0, 1, 2]⟩ 7 ⟨[(2, .one (.c (.ptr 0 0))), (5, .one (.c (.own 1 (.int .u8) r372_0.2.1))), (7, .one (.c (.ptr 2 0)))], [(1, some ⟨5, 0⟩)], [(0, [.d (.int .u32 0), .d (.int .u32 0), .d (.int .u8 0), .d (.bool false), .d (.bool false), .d (.int .u64 0)]), (2, [.d (.int .u32 (IntKind.wrap .u32 (r372_0.1.getD 0 0))), .d (.int .u32 (IntKind.wrap .u32 (r372_0.1.getD 1 0))), .d (.int .u8 (IntKind.wrap .u8 (r372_0.1.getD 2 0))), .d (.bool (((r372_0.1.getD 3 0) : Int) == 1)), .d (.bool false), .d (.int .u64 0)])], 3⟩ [((((r372_0.2.1.length : Nat) : Int) : Int) == 0) = false] (by kernel_rfl) ⟨b378_e0, trivial⟩ ?_
          obtain ⟨r380_0, cr380_0, h⟩ := bindS h
          refine At.step hm ht ⟨[(2, .call [] [] (f81_pack_All_out r380_0))], [], [], [2, 6, 7, 8], [0, 2, 5]⟩ 8 ⟨[(2, .one (.c (.ptr 0 0))), (6, .one (.c (.d (.bool r380_0.2)))), (7, .one (.c (.ptr 1 0))), (8, .one (.c (.own 2 (.int .u64) r380_0.1)))], [(2, some ⟨36, 0⟩)], [(0, [.d (.int .u32 0), .d (.int .u32 0), .d (.int .u8 0), .d (.bool false), .d (.bool false), .d (.int .u64 0)]), (1, [.d (.int .u32 (IntKind.wrap .u32 (r372_0.1.getD 0 0))), .d (.int .u32 (IntKind.wrap .u32 (r372_0.1.getD 1 0))), .d (.int .u8 (IntKind.wrap .u8 (r372_0.1.getD 2 0))), .d (.bool (((r372_0.1.getD 3 0) : Int) == 1)), .d (.bool false), .d (.int .u64 0)])], 3⟩ [FnOK Go.Proofs.Try.prog 81 (f81_pack_All_in r372_0.2.1 [8]) (f81_pack_All_out r380_0)] (by kernel_rfl) ⟨(f81_pack_All_ok n r372_0.2.1 [8] r380_0 cr380_0), trivial⟩ ?_
          rcases iteS h with ⟨b381_e0, h⟩ | ⟨b381_e0, h⟩
          · refine At.step hm ht ⟨[], [true], [], [2], [0]⟩ 9 ⟨[(2, .one (.c (.ptr 0 0)))], [], [(0, [.d (.int .u32 0), .d (.int .u32 0), .d (.int .u8 0), .d (.bool false), .d (.bool false), .d (.int .u64 0)])], 1⟩ [(!r380_0.2) = true] (by kernel_rfl) ⟨b381_e0, trivial⟩ ?_
            have h := Option.some.inj h
            subst h
            exact At.fin hm ht ⟨[], [], [], [2, 3], [0]⟩ [0 + 6 ≤ 6] (by kernel_rfl) ⟨(by decide), trivial⟩
          · refine At.step hm ht ⟨[], [false], [], [2, 7, 8], [0, 1, 2]⟩ 10 ⟨[(2, .one (.c (.ptr 0 0))), (7, .one (.c (.ptr 1 0))), (8, .one (.c (.own 2 (.int .u64) r380_0.1)))], [(2, some ⟨36, 0⟩)], [(0, [.d (.int .u32 0), .d (.int .u32 0), .d (.int .u8 0), .d (.bool false), .d (.bool false), .d (.int .u64 0)]), (1, [.d (.int .u32 (IntKind.wrap .u32 (r372_0.1.getD 0 0))), .d (.int .u32 (IntKind.wrap .u32 (r372_0.1.getD 1 0))), .d (.int .u8 (IntKind.wrap .u8 (r372_0.1.getD 2 0))), .d (.bool (((r372_0.1.getD 3 0) : Int) == 1)), .d (.bool false), .d (.int .u64 0)])], 3⟩ [(!r380_0.2) = false] (by kernel_rfl) ⟨b381_e0, trivial⟩ ?_
            obtain ⟨g383_0, h⟩ := ifS h
            refine At.step hm ht ⟨[], [], [], [2, 7], [0, 1]⟩ 11 ⟨[(2, .one (.c (.ptr 0 0))), (7, .one (.c (.ptr 1 0)))], [], [(0, [.d (.int .u32 0), .d (.int .u32 0), .d (.int .u8 0), .d (.bool false), .d (.bool false), .d (.int .u64 0)]), (1, [.d (.int .u32 (IntKind.wrap .u32 (r372_0.1.getD 0 0))), .d (.int .u32 (IntKind.wrap .u32 (r372_0.1.getD 1 0))), .d (.int .u8 (IntKind.wrap .u8 (r372_0.1.getD 2 0))), .d (.bool (((r372_0.1.getD 3 0) : Int) == 1)), .d (.bool true), .d (.int .u64 (r380_0.1.getD 0 0))])], 2⟩ [(0 : Int) ≤ 0 ∧ 0 < (((r380_0.1).length : Nat) : Int), 4 + 1 ≤ 6, 5 + 1 ≤ 6] (by kernel_rfl) ⟨g383_0, (by decide), (by decide), trivial⟩ ?_
            have h := Option.some.inj h
            subst h
            exact At.fin hm ht ⟨[], [], [], [2, 3], [0]⟩ [0 + 6 ≤ 6] (by kernel_rfl) ⟨(by decide), trivial⟩
/-! brougham/broughamref02.All -/
def f84_broughamref02_All_in (b : List Int) (sizes : List Int) : Inn := ⟨[.c (.d (.sl (.int .u8) b)), .c (.d (.sl (.int .i64) sizes))], [], [], 0⟩
def f84_broughamref02_All_out (r : List Int × List Int × Bool) : Out := ⟨.tup [.c (.own 0 (.int .u64) r.1), .c (.d (.sl (.int .u8) r.2.1)), .c (.d (.bool r.2.2))], [(0, ⟨36, 0⟩)], [], 1⟩
def f84_broughamref02_All_L3 : Nat → (List Int) → (List Int) → (List Int) → Int → Option ((List Int × List Int × Bool) ⊕ (List Int × List Int))
  | 0, _, _, _, _ => none
  | n + 1, b, sizes, out, i =>
    if (decide ((i : Int) < ((sizes.length : Nat) : Int))) = true then
      if (0 : Int) ≤ i ∧ i < (((sizes).length : Nat) : Int) then
      (f82_broughamref02_Get n b (sizes.getD i.toNat 0)).bind fun r416_1 =>
      if (!r416_1.2.2) = true then
        some (.inl ([], [], false))
      else
        if out.length + [r416_1.1].length ≤ maxLen ∧ (out.length + [r416_1.1].length) * 8 ≤ 140737488355328 then
        f84_broughamref02_All_L3 n r416_1.2.1 sizes (out ++ [r416_1.1]) (IntKind.wrap .i64 (i + 1))
        else none
      else none
    else
      some (.inr ((b, out)))
def f84_broughamref02_All_L3_k (w : (List Int × List Int × Bool) ⊕ (List Int × List Int)) (o : Out) : Prop := match w with
  | .inl e => o = f84_broughamref02_All_out e
  | .inr e => At Go.Proofs.Try.prog Go.Proofs.Try.f84 0 10 ⟨[(0, .one (.c (.d (.sl (.int .u8) e.1)))), (7, .one (.c (.own 0 (.int .u64) e.2)))], [(0, some ⟨36, 0⟩)], [], 1⟩ o
theorem f84_broughamref02_All_L3_ok (n : Nat) : ∀ (b : List Int) (sizes : List Int) (out : List Int) (i : Int) (w : (List Int × List Int × Bool) ⊕ (List Int × List Int)) (h : f84_broughamref02_All_L3 n b sizes out i = some w) (o : Out) (hk : f84_broughamref02_All_L3_k w o), At Go.Proofs.Try.prog Go.Proofs.Try.f84 0 3 ⟨[(0, .one (.c (.d (.sl (.int .u8) b)))), (1, .one (.c (.d (.sl (.int .i64) sizes)))), (7, .one (.c (.own 0 (.int .u64) out))), (8, .one (.c (.d (.int .i64 i))))], [(0, some ⟨36, 0⟩)], [], 1⟩ o := by
  induction n with
  | zero => intro b sizes out i w h; rw [f84_broughamref02_All_L3] at h; cases h
  | succ n ih =>
    intro b sizes out i w h o hk
    rw [f84_broughamref02_All_L3] at h
    rcases iteS h with ⟨b415_e0, h⟩ | ⟨b415_e0, h⟩
    · refine At.step hm ht ⟨[], [true], [], [0, 1, 7, 8], [0]⟩ 5 ⟨[(0, .one (.c (.d (.sl (.int .u8) b)))), (1, .one (.c (.d (.sl (.int .i64) sizes)))), (7, .one (.c (.own 0 (.int .u64) out))), (8, .one (.c (.d (.int .i64 i))))], [(0, some ⟨36, 0⟩)], [], 1⟩ [(decide ((i : Int) < ((sizes.length : Nat) : Int))) = true] (by kernel_rfl) ⟨b415_e0, trivial⟩ ?_
      obtain ⟨g416_0, h⟩ := ifS h
      obtain ⟨r416_1, cr416_1, h⟩ := bindS h
      refine At.step hm ht ⟨[(5, .call [] [] (f82_broughamref02_Get_out r416_1))], [], [], [1, 7, 8, 9, 10, 11], [0]⟩ 6 ⟨[(1, .one (.c (.d (.sl (.int .i64) sizes)))), (7, .one (.c (.own 0 (.int .u64) out))), (8, .one (.c (.d (.int .i64 i)))), (9, .one (.c (.d (.int .u64 r416_1.1)))), (10, .one (.c (.d (.sl (.int .u8) r416_1.2.1)))), (11, .one (.c (.d (.bool r416_1.2.2))))], [(0, some ⟨36, 0⟩)], [], 1⟩ [(0 : Int) ≤ i ∧ i < (((sizes).length : Nat) : Int), FnOK Go.Proofs.Try.prog 82 (f82_broughamref02_Get_in b (sizes.getD i.toNat 0)) (f82_broughamref02_Get_out r416_1)] (by kernel_rfl) ⟨g416_0, (f82_broughamref02_Get_ok n b (sizes.getD i.toNat 0) r416_1 cr416_1), trivial⟩ ?_
      rcases iteS h with ⟨b417_e0, h⟩ | ⟨b417_e0, h⟩
      · refine At.step hm ht ⟨[], [true], [], [], []⟩ 7 ⟨[], [], [], 0⟩ [(!r416_1.2.2) = true] (by kernel_rfl) ⟨b417_e0, trivial⟩ ?_
        have h := Option.some.inj h
        subst h
        have hk : o = f84_broughamref02_All_out ([], [], false) := hk
        subst hk
        exact At.fin hm ht ⟨[], [], [.nil false 4 0 (.int .u64) (some 36), .nil false 5 0 (.int .u8) none], [4, 5, 6], [3]⟩ [] (by kernel_rfl) trivial
      · refine At.step hm ht ⟨[], [false], [], [1, 7, 8, 9, 10], [0]⟩ 8 ⟨[(1, .one (.c (.d (.sl (.int .i64) sizes)))), (7, .one (.c (.own 0 (.int .u64) out))), (8, .one (.c (.d (.int .i64 i)))), (9, .one (.c (.d (.int .u64 r416_1.1)))), (10, .one (.c (.d (.sl (.int .u8) r416_1.2.1))))], [(0, some ⟨36, 0⟩)], [], 1⟩ [(!r416_1.2.2) = false] (by kernel_rfl) ⟨b417_e0, trivial⟩ ?_
        obtain ⟨g419_0, h⟩ := ifS h
        refine At.step hm ht ⟨[], [], [], [1, 7, 8, 10], [4]⟩ 9 ⟨[(1, .one (.c (.d (.sl (.int .i64) sizes)))), (7, .one (.c (.own 0 (.int .u64) (out ++ [r416_1.1])))), (8, .one (.c (.d (.int .i64 i)))), (10, .one (.c (.d (.sl (.int .u8) r416_1.2.1))))], [(0, some ⟨36, 0⟩)], [], 1⟩ [out.length + [r416_1.1].length ≤ maxLen ∧ (out.length + [r416_1.1].length) * 8 ≤ 140737488355328] (by kernel_rfl) ⟨g419_0, trivial⟩ ?_
        refine At.step hm ht ⟨[], [], [], [0, 1, 7, 8], [0]⟩ 4 ⟨[(0, .one (.c (.d (.sl (.int .u8) r416_1.2.1)))), (1, .one (.c (.d (.sl (.int .i64) sizes)))), (7, .one (.c (.own 0 (.int .u64) (out ++ [r416_1.1])))), (8, .one (.c (.d (.int .i64 i))))], [(0, some ⟨36, 0⟩)], [], 1⟩ [] (by kernel_rfl) trivial ?_
        refine At.step hm ht ⟨[], [], [], [0, 1, 7, 8], [0]⟩ 3 ⟨[(0, .one (.c (.d (.sl (.int .u8) r416_1.2.1)))), (1, .one (.c (.d (.sl (.int .i64) sizes)))), (7, .one (.c (.own 0 (.int .u64) (out ++ [r416_1.1])))), (8, .one (.c (.d (.int .i64 (IntKind.wrap .i64 (i + 1))))))], [(0, some ⟨36, 0⟩)], [], 1⟩ [] (by kernel_rfl) trivial ?_
        exact ih r416_1.2.1 sizes (out ++ [r416_1.1]) (IntKind.wrap .i64 (i + 1)) w h o hk
    · refine At.step hm ht ⟨[], [false], [], [0, 7], [0]⟩ 10 ⟨[(0, .one (.c (.d (.sl (.int .u8) b)))), (7, .one (.c (.own 0 (.int .u64) out)))], [(0, some ⟨36, 0⟩)], [], 1⟩ [(decide ((i : Int) < ((sizes.length : Nat) : Int))) = false] (by kernel_rfl) ⟨b415_e0, trivial⟩ ?_
      have h := Option.some.inj h
      subst h
      exact hk
def f84_broughamref02_All (n : Nat) (b : List Int) (sizes : List Int) : Option (List Int × List Int × Bool) :=
  (f84_broughamref02_All_L3 n b sizes [] 0).bind fun w422 =>
  match w422 with
  | .inl e423 =>
    some (e423.1, e423.2.1, e423.2.2)
  | .inr e424 =>
    some (e424.2, e424.1, true)
theorem f84_broughamref02_All_ok (n : Nat) (b : List Int) (sizes : List Int) (r : List Int × List Int × Bool) (h : f84_broughamref02_All n b sizes = some r) : FnOK Go.Proofs.Try.prog 84 (f84_broughamref02_All_in b sizes) (f84_broughamref02_All_out r) := by
  unfold f84_broughamref02_All at h
  refine At.fn (r := 0) Go.Proofs.Try.func84 rfl (by kernel_rfl) rfl rfl (by kernel_rfl) ?_
  show At Go.Proofs.Try.prog Go.Proofs.Try.f84 0 0 ⟨[(0, .one (.c (.d (.sl (.int .u8) b)))), (1, .one (.c (.d (.sl (.int .i64) sizes))))], [], [], 0⟩ _
  refine At.step hm ht ⟨[], [], [], [0, 1], []⟩ 1 ⟨[(0, .one (.c (.d (.sl (.int .u8) b)))), (1, .one (.c (.d (.sl (.int .i64) sizes))))], [], [], 0⟩ [] (by kernel_rfl) trivial ?_
  refine At.step hm ht ⟨[], [], [], [0, 1, 7], []⟩ 2 ⟨[(0, .one (.c (.d (.sl (.int .u8) b)))), (1, .one (.c (.d (.sl (.int .i64) sizes)))), (7, .one (.c (.d (.sl .unit []))))], [], [], 0⟩ [] (by kernel_rfl) trivial ?_
  refine At.step hm ht ⟨[], [], [.nil false 7 0 (.int .u64) (some 36)], [0, 1, 7, 8], [1]⟩ 3 ⟨[(0, .one (.c (.d (.sl (.int .u8) b)))), (1, .one (.c (.d (.sl (.int .i64) sizes)))), (7, .one (.c (.own 0 (.int .u64) []))), (8, .one (.c (.d (.int .i64 0))))], [(0, some ⟨36, 0⟩)], [], 1⟩ [] (by kernel_rfl) trivial ?_
  obtain ⟨w422, cw422, h⟩ := bindS h
  refine f84_broughamref02_All_L3_ok n b sizes [] 0 w422 cw422 _ ?_
  rcases w422 with e423 | e424
  · have h := Option.some.inj h
    subst h
    rfl
  · show At Go.Proofs.Try.prog Go.Proofs.Try.f84 0 10 ⟨[(0, .one (.c (.d (.sl (.int .u8) e424.1)))), (7, .one (.c (.own 0 (.int .u64) e424.2)))], [(0, some ⟨36, 0⟩)], [], 1⟩ _
    have h := Option.some.inj h
    subst h
    exact At.fin hm ht ⟨[], [], [], [4, 5, 6], [0]⟩ [] (by kernel_rfl) trivial
/-! brougham/broughamref08.ParseJoin -/
def f35_broughamref08_ParseJoin_in (o__0 : Int) (o__1 : List Int) : Inn := ⟨[.agg [.d (.int .u8 o__0), .d (.sl (.int .u8) o__1)]], [], [], 0⟩
def f35_broughamref08_ParseJoin_out (r : Bool × Int × Int × Int × Bool × Bool × Int) : Out := ⟨.tup [.agg [.d (.int .u32 r.2.1), .d (.int .u32 r.2.2.1), .d (.int .u8 r.2.2.2.1), .d (.bool r.2.2.2.2.1), .d (.bool r.2.2.2.2.2.1), .d (.int .u64 r.2.2.2.2.2.2)], .c (.d (.bool r.1))], [], [(0, [.d (.int .u32 r.2.1), .d (.int .u32 r.2.2.1), .d (.int .u8 r.2.2.2.1), .d (.bool r.2.2.2.2.1), .d (.bool r.2.2.2.2.2.1), .d (.int .u64 r.2.2.2.2.2.2)])], 1⟩
def f35_broughamref08_ParseJoin (n : Nat) (o__0 : Int) (o__1 : List Int) : Option (Bool × Int × Int × Int × Bool × Bool × Int) :=
  (f84_broughamref02_All n o__1 [4, 4, 1, 1]).bind fun r387_0 =>
  if ((o__0 : Int) != 2) = true then
    some (false, 0, 0, 0, false, false, 0)
  else
    if (!r387_0.2.2) = true then
      some (false, 0, 0, 0, false, false, 0)
    else
      if (0 : Int) ≤ 3 ∧ 3 < (((r387_0.1).length : Nat) : Int) then
      if (decide (((r387_0.1.getD 3 0) : Int) > 1)) = true then
        some (false, 0, 0, 0, false, false, 0)
      else
        if ((((r387_0.2.1.length : Nat) : Int) : Int) != 0) = true then
          if ((((r387_0.2.1.length : Nat) : Int) : Int) != 8) = true then
            some (false, 0, 0, 0, false, false, 0)
          else
            if (0 : Int) ≤ 0 ∧ 0 < (((r387_0.1).length : Nat) : Int) then
            if (0 : Int) ≤ 1 ∧ 1 < (((r387_0.1).length : Nat) : Int) then
            if (0 : Int) ≤ 2 ∧ 2 < (((r387_0.1).length : Nat) : Int) then
            if (0 : Int) ≤ 3 ∧ 3 < (((r387_0.1).length : Nat) : Int) then
            (f82_broughamref02_Get n r387_0.2.1 8).bind fun r432_0 =>
            some (true, (IntKind.wrap .u32 (r387_0.1.getD 0 0)), (IntKind.wrap .u32 (r387_0.1.getD 1 0)), (IntKind.wrap .u8 (r387_0.1.getD 2 0)), (((r387_0.1.getD 3 0) : Int) == 1), r432_0.2.2, r432_0.1)
            else none
            else none
            else none
            else none
        else
          if (0 : Int) ≤ 0 ∧ 0 < (((r387_0.1).length : Nat) : Int) then
          if (0 : Int) ≤ 1 ∧ 1 < (((r387_0.1).length : Nat) : Int) then
          if (0 : Int) ≤ 2 ∧ 2 < (((r387_0.1).length : Nat) : Int) then
          if (0 : Int) ≤ 3 ∧ 3 < (((r387_0.1).length : Nat) : Int) then
          (f82_broughamref02_Get n r387_0.2.1 8).bind fun r435_0 =>
          some (true, (IntKind.wrap .u32 (r387_0.1.getD 0 0)), (IntKind.wrap .u32 (r387_0.1.getD 1 0)), (IntKind.wrap .u8 (r387_0.1.getD 2 0)), (((r387_0.1.getD 3 0) : Int) == 1), r435_0.2.2, r435_0.1)
          else none
          else none
          else none
          else none
      else none
theorem f35_broughamref08_ParseJoin_ok (n : Nat) (o__0 : Int) (o__1 : List Int) (r : Bool × Int × Int × Int × Bool × Bool × Int) (h : f35_broughamref08_ParseJoin n o__0 o__1 = some r) : FnOK Go.Proofs.Try.prog 35 (f35_broughamref08_ParseJoin_in o__0 o__1) (f35_broughamref08_ParseJoin_out r) := by
  unfold f35_broughamref08_ParseJoin at h
  refine At.fn (r := 0) Go.Proofs.Try.func35 rfl (by kernel_rfl) rfl rfl (by kernel_rfl) ?_
  show At Go.Proofs.Try.prog Go.Proofs.Try.f35 0 0 ⟨[(0, .one (.agg [.d (.int .u8 o__0), .d (.sl (.int .u8) o__1)]))], [], [], 0⟩ _
  refine At.step hm ht ⟨[], [], [], [1, 2], [0, 1]⟩ 1 ⟨[(1, .one (.c (.ptr 0 0))), (2, .one (.c (.ptr 1 0)))], [], [(0, [.d (.int .u8 o__0), .d (.sl (.int .u8) o__1)]), (1, [.d (.int .u32 0), .d (.int .u32 0), .d (.int .u8 0), .d (.bool false), .d (.bool false), .d (.int .u64 0)])], 2⟩ [] (by kernel_rfl) trivial ?_
  obtain ⟨r387_0, cr387_0, h⟩ := bindS h
  refine At.step hm ht ⟨[(3, .call [] [] (f84_broughamref02_All_out r387_0))], [], [], [1, 2, 4, 5, 6], [0, 1, 5]⟩ 2 ⟨[(1, .one (.c (.ptr 0 0))), (2, .one (.c (.ptr 1 0))), (4, .one (.c (.own 2 (.int .u64) r387_0.1))), (5, .one (.c (.d (.sl (.int .u8) r387_0.2.1)))), (6, .one (.c (.d (.bool r387_0.2.2))))], [(2, some ⟨36, 0⟩)], [(0, [.d (.int .u8 o__0), .d (.sl (.int .u8) o__1)]), (1, [.d (.int .u32 0), .d (.int .u32 0), .d (.int .u8 0), .d (.bool false), .d (.bool false), .d (.int .u64 0)])], 3⟩ [FnOK Go.Proofs.Try.prog 84 (f84_broughamref02_All_in o__1 [4, 4, 1, 1]) (f84_broughamref02_All_out r387_0)] (by kernel_rfl) ⟨(f84_broughamref02_All_ok n o__1 [4, 4, 1, 1] r387_0 cr387_0), trivial⟩ ?_
  rcases iteS h with ⟨b426_3, h⟩ | ⟨b426_3, h⟩
  · refine At.step hm ht ⟨[(3, .b true)], [true], [], [2], [1]⟩ 3 ⟨[(2, .one (.c (.ptr 0 0)))], [], [(0, [.d (.int .u32 0), .d (.int .u32 0), .d (.int .u8 0), .d (.bool false), .d (.bool false), .d (.int .u64 0)])], 1⟩ [((o__0 : Int) != 2) = true, true = true] (by kernel_rfl) ⟨b426_3, rfl, trivial⟩ ?_
    have h := Option.some.inj h
    subst h
    exact At.fin hm ht ⟨[], [], [], [2, 3], [0]⟩ [0 + 6 ≤ 6] (by kernel_rfl) ⟨(by decide), trivial⟩
  · rcases iteS h with ⟨b426_7, h⟩ | ⟨b426_7, h⟩
    · refine At.step hm ht ⟨[(3, .b false), (7, .b true)], [true], [], [2], [1]⟩ 3 ⟨[(2, .one (.c (.ptr 0 0)))], [], [(0, [.d (.int .u32 0), .d (.int .u32 0), .d (.int .u8 0), .d (.bool false), .d (.bool false), .d (.int .u64 0)])], 1⟩ [((o__0 : Int) != 2) = false, (!r387_0.2.2) = true, true = true] (by kernel_rfl) ⟨b426_3, b426_7, rfl, trivial⟩ ?_
      have h := Option.some.inj h
      subst h
      exact At.fin hm ht ⟨[], [], [], [2, 3], [0]⟩ [0 + 6 ≤ 6] (by kernel_rfl) ⟨(by decide), trivial⟩
    · obtain ⟨g426_0, h⟩ := ifS h
      rcases iteS h with ⟨b426_13, h⟩ | ⟨b426_13, h⟩
      · refine At.step hm ht ⟨[(3, .b false), (7, .b false), (13, .b true)], [true], [], [2], [1]⟩ 3 ⟨[(2, .one (.c (.ptr 0 0)))], [], [(0, [.d (.int .u32 0), .d (.int .u32 0), .d (.int .u8 0), .d (.bool false), .d (.bool false), .d (.int .u64 0)])], 1⟩ [((o__0 : Int) != 2) = false, (!r387_0.2.2) = false, (0 : Int) ≤ 3 ∧ 3 < (((r387_0.1).length : Nat) : Int), (decide (((r387_0.1.getD 3 0) : Int) > 1)) = true, true = true] (by kernel_rfl) ⟨b426_3, b426_7, g426_0, b426_13, rfl, trivial⟩ ?_
        have h := Option.some.inj h
        subst h
        exact At.fin hm ht ⟨[], [], [], [2, 3], [0]⟩ [0 + 6 ≤ 6] (by kernel_rfl) ⟨(by decide), trivial⟩
      · rcases iteS h with ⟨b426_17, h⟩ | ⟨b426_17, h⟩
        · rcases iteS h with ⟨b426_e0, h⟩ | ⟨b426_e0, h⟩
          · refine At.step hm ht ⟨[(3, .b false), (7, .b false), (13, .b false), (17, .b true)], [true], [], [2], [1]⟩ 3 ⟨[(2, .one (.c (.ptr 0 0)))], [], [(0, [.d (.int .u32 0), .d (.int .u32 0), .d (.int .u8 0), .d (.bool false), .d (.bool false), .d (.int .u64 0)])], 1⟩ [((o__0 : Int) != 2) = false, (!r387_0.2.2) = false, (0 : Int) ≤ 3 ∧ 3 < (((r387_0.1).length : Nat) : Int), (decide (((r387_0.1.getD 3 0) : Int) > 1)) = false, ((((r387_0.2.1.length : Nat) : Int) : Int) != 0) = true, ((((r387_0.2.1.length : Nat) : Int) : Int) != 8) = true] (by kernel_rfl) ⟨b426_3, b426_7, g426_0, b426_13, b426_17, b426_e0, trivial⟩ ?_
            have h := Option.some.inj h
            subst h
            exact At.fin hm ht ⟨[], [], [], [2, 3], [0]⟩ [0 + 6 ≤ 6] (by kernel_rfl) ⟨(by decide), trivial⟩
          · refine At.step hm ht ⟨[(3, .b false), (7, .b false), (13, .b false), (17, .b true)], [false], [], [2, 4, 5], [1, 2]⟩ 4 ⟨[(2, .one (.c (.ptr 0 0))), (4, .one (.c (.own 1 (.int .u64) r387_0.1))), (5, .one (.c (.d (.sl (.int .u8) r387_0.2.1))))], [(1, some ⟨36, 0⟩)], [(0, [.d (.int .u32 0), .d (.int .u32 0), .d (.int .u8 0), .d (.bool false), .d (.bool false), .d (.int .u64 0)])], 2⟩ [((o__0 : Int) != 2) = false, (!r387_0.2.2) = false, (0 : Int) ≤ 3 ∧ 3 < (((r387_0.1).length : Nat) : Int), (decide (((r387_0.1.getD 3 0) : Int) > 1)) = false, ((((r387_0.2.1.length : Nat) : Int) : Int) != 0) = true, ((((r387_0.2.1.length : Nat) : Int) : Int) != 8) = false] (by kernel_rfl) ⟨b426_3, b426_7, g426_0, b426_13, b426_17, b426_e0, trivial⟩ ?_
            obtain ⟨g431_0, h⟩ := ifS h
            obtain ⟨g431_1, h⟩ := ifS h
            obtain ⟨g431_2, h⟩ := ifS h
            obtain ⟨g431_3, h⟩ := ifS h
            refine At.step hm ht ⟨[], [], [], [2, 5, 7], [0, 19]⟩ 5 ⟨[(2, .one (.c (.ptr 0 0))), (5, .one (.c (.d (.sl (.int .u8) r387_0.2.1)))), (7, .one (.c (.ptr 1 0)))], [], [(0, [.d (.int .u32 0), .d (.int .u32 0), .d (.int .u8 0), .d (.bool false), .d (.bool false), .d (.int .u64 0)]), (1, [.d (.int .u32 (IntKind.wrap .u32 (r387_0.1.getD 0 0))), .d (.int .u32 (IntKind.wrap .u32 (r387_0.1.getD 1 0))), .d (.int .u8 (IntKind.wrap .u8 (r387_0.1.getD 2 0))), .d (.bool (((r387_0.1.getD 3 0) : Int) == 1)), .d (.bool false), .d (.int .u64 0)])], 2⟩ [(0 : Int) ≤ 0 ∧ 0 < (((r387_0.1).length : Nat) : Int), (0 : Int) ≤ 1 ∧ 1 < (((r387_0.1).length : Nat) : Int), (0 : Int) ≤ 2 ∧ 2 < (((r387_0.1).length : Nat) : Int), (0 : Int) ≤ 3 ∧ 3 < (((r387_0.1).length : Nat) : Int), 0 + 6 ≤ 6] (by kernel_rfl) ⟨g431_0, g431_1, g431_2, g431_3, (by decide), trivial⟩ ?_
            obtain ⟨r432_0, cr432_0, h⟩ := bindS h
            refine At.step hm ht ⟨[(1, .call [] [] (f82_broughamref02_Get_out r432_0))], [], [], [2, 7], [0, 1]⟩ 6 ⟨[(2, .one (.c (.ptr 0 0))), (7, .one (.c (.ptr 1 0)))], [], [(0, [.d (.int .u32 0), .d (.int .u32 0), .d (.int .u8 0), .d (.bool false), .d (.bool false), .d (.int .u64 0)]), (1, [.d (.int .u32 (IntKind.wrap .u32 (r387_0.1.getD 0 0))), .d (.int .u32 (IntKind.wrap .u32 (r387_0.1.getD 1 0))), .d (.int .u8 (IntKind.wrap .u8 (r387_0.1.getD 2 0))), .d (.bool (((r387_0.1.getD 3 0) : Int) == 1)), .d (.bool r432_0.2.2), .d (.int .u64 r432_0.1)])], 2⟩ [FnOK Go.Proofs.Try.prog 82 (f82_broughamref02_Get_in r387_0.2.1 8) (f82_broughamref02_Get_out r432_0), 5 + 1 ≤ 6, 4 + 1 ≤ 6] (by kernel_rfl) ⟨(f82_broughamref02_Get_ok n r387_0.2.1 8 r432_0 cr432_0), (by decide), (by decide), trivial⟩ ?_
            have h := Option.some.inj h
            subst h
            exact At.fin hm ht ⟨[], [], [], [2, 3], [0]⟩ [0 + 6 ≤ 6] (by kernel_rfl) ⟨(by decide), trivial⟩
        · refine At.step hm ht ⟨[(3, .b false), (7, .b false), (13, .b false), (17, .b false)], [false], [], [2, 4, 5], [1, 2]⟩ 4 ⟨[(2, .one (.c (.ptr 0 0))), (4, .one (.c (.own 1 (.int .u64) r387_0.1))), (5, .one (.c (.d (.sl (.int .u8) r387_0.2.1))))], [(1, some ⟨36, 0⟩)], [(0, [.d (.int .u32 0), .d (.int .u32 0), .d (.int .u8 0), .d (.bool false), .d (.bool false), .d (.int .u64 0)])], 2⟩ [((o__0 : Int) != 2) = false, (!r387_0.2.2) = false, (0 : Int) ≤ 3 ∧ 3 < (((r387_0.1).length : Nat) : Int), (decide (((r387_0.1.getD 3 0) : Int) > 1)) = false, ((((r387_0.2.1.length : Nat) : Int) : Int) != 0) = false, false = false] (by kernel_rfl) ⟨b426_3, b426_7, g426_0, b426_13, b426_17, rfl, trivial⟩ ?_
          obtain ⟨g434_0, h⟩ := ifS h
          obtain ⟨g434_1, h⟩ := ifS h
          obtain ⟨g434_2, h⟩ := ifS h
          obtain ⟨g434_3, h⟩ := ifS h
          refine At.step hm ht ⟨[], [], [], [2, 5, 7], [0, 19]⟩ 5 ⟨[(2, .one (.c (.ptr 0 0))), (5, .one (.c (.d (.sl (.int .u8) r387_0.2.1)))), (7, .one (.c (.ptr 1 0)))], [], [(0, [.d (.int .u32 0), .d (.int .u32 0), .d (.int .u8 0), .d (.bool false), .d (.bool false), .d (.int .u64 0)]), (1, [.d (.int .u32 (IntKind.wrap .u32 (r387_0.1.getD 0 0))), .d (.int .u32 (IntKind.wrap .u32 (r387_0.1.getD 1 0))), .d (.int .u8 (IntKind.wrap .u8 (r387_0.1.getD 2 0))), .d (.bool (((r387_0.1.getD 3 0) : Int) == 1)), .d (.bool false), .d (.int .u64 0)])], 2⟩ [(0 : Int) ≤ 0 ∧ 0 < (((r387_0.1).length : Nat) : Int), (0 : Int) ≤ 1 ∧ 1 < (((r387_0.1).length : Nat) : Int), (0 : Int) ≤ 2 ∧ 2 < (((r387_0.1).length : Nat) : Int), (0 : Int) ≤ 3 ∧ 3 < (((r387_0.1).length : Nat) : Int), 0 + 6 ≤ 6] (by kernel_rfl) ⟨g434_0, g434_1, g434_2, g434_3, (by decide), trivial⟩ ?_
          obtain ⟨r435_0, cr435_0, h⟩ := bindS h
          refine At.step hm ht ⟨[(1, .call [] [] (f82_broughamref02_Get_out r435_0))], [], [], [2, 7], [0, 1]⟩ 6 ⟨[(2, .one (.c (.ptr 0 0))), (7, .one (.c (.ptr 1 0)))], [], [(0, [.d (.int .u32 0), .d (.int .u32 0), .d (.int .u8 0), .d (.bool false), .d (.bool false), .d (.int .u64 0)]), (1, [.d (.int .u32 (IntKind.wrap .u32 (r387_0.1.getD 0 0))), .d (.int .u32 (IntKind.wrap .u32 (r387_0.1.getD 1 0))), .d (.int .u8 (IntKind.wrap .u8 (r387_0.1.getD 2 0))), .d (.bool (((r387_0.1.getD 3 0) : Int) == 1)), .d (.bool r435_0.2.2), .d (.int .u64 r435_0.1)])], 2⟩ [FnOK Go.Proofs.Try.prog 82 (f82_broughamref02_Get_in r387_0.2.1 8) (f82_broughamref02_Get_out r435_0), 5 + 1 ≤ 6, 4 + 1 ≤ 6] (by kernel_rfl) ⟨(f82_broughamref02_Get_ok n r387_0.2.1 8 r435_0 cr435_0), (by decide), (by decide), trivial⟩ ?_
          have h := Option.some.inj h
          subst h
          exact At.fin hm ht ⟨[], [], [], [2, 3], [0]⟩ [0 + 6 ≤ 6] (by kernel_rfl) ⟨(by decide), trivial⟩
/-! brougham/opt.ParseData -/
def f36_opt_ParseData_in (o__0 : Int) (o__1 : List Int) : Inn := ⟨[.agg [.d (.int .u8 o__0), .d (.sl (.int .u8) o__1)]], [], [], 0⟩
def f36_opt_ParseData_out (r : Bool × Bool × Bool × Int × Int × Int × Int) : Out := ⟨.tup [.agg [.d (.bool r.2.1), .d (.bool r.2.2.1), .d (.int .u64 r.2.2.2.1), .d (.int .u64 r.2.2.2.2.1), .d (.int .u32 r.2.2.2.2.2.1), .d (.int .u64 r.2.2.2.2.2.2)], .c (.d (.bool r.1))], [], [(0, [.d (.bool r.2.1), .d (.bool r.2.2.1), .d (.int .u64 r.2.2.2.1), .d (.int .u64 r.2.2.2.2.1), .d (.int .u32 r.2.2.2.2.2.1), .d (.int .u64 r.2.2.2.2.2.2)])], 1⟩
def f36_opt_ParseData (n : Nat) (o__0 : Int) (o__1 : List Int) : Option (Bool × Bool × Bool × Int × Int × Int × Int) :=
  (f81_pack_All n o__1 [1, 8, 8, 4, 8]).bind fun r442_0 =>
  if ((o__0 : Int) != 3) = true then
    some (false, false, false, 0, 0, 0, 0)
  else
    if (!r442_0.2) = true then
      some (false, false, false, 0, 0, 0, 0)
    else
      if (0 : Int) ≤ 0 ∧ 0 < (((r442_0.1).length : Nat) : Int) then
      if (decide (((r442_0.1.getD 0 0) : Int) > 3)) = true then
        some (false, false, false, 0, 0, 0, 0)
      else
        if (0 : Int) ≤ 0 ∧ 0 < (((r442_0.1).length : Nat) : Int) then
        if (0 : Int) ≤ 0 ∧ 0 < (((r442_0.1).length : Nat) : Int) then
        if (0 : Int) ≤ 1 ∧ 1 < (((r442_0.1).length : Nat) : Int) then
        if (0 : Int) ≤ 2 ∧ 2 < (((r442_0.1).length : Nat) : Int) then
        if (0 : Int) ≤ 3 ∧ 3 < (((r442_0.1).length : Nat) : Int) then
        if (0 : Int) ≤ 4 ∧ 4 < (((r442_0.1).length : Nat) : Int) then
        some (true, (((bits .and .u64 (r442_0.1.getD 0 0) 1) : Int) == 1), (((bits .and .u64 (r442_0.1.getD 0 0) 2) : Int) == 2), (r442_0.1.getD 1 0), (r442_0.1.getD 2 0), (IntKind.wrap .u32 (r442_0.1.getD 3 0)), (r442_0.1.getD 4 0))
        else none
        else none
        else none
        else none
        else none
        else none
      else none
theorem f36_opt_ParseData_ok (n : Nat) (o__0 : Int) (o__1 : List Int) (r : Bool × Bool × Bool × Int × Int × Int × Int) (h : f36_opt_ParseData n o__0 o__1 = some r) : FnOK Go.Proofs.Try.prog 36 (f36_opt_ParseData_in o__0 o__1) (f36_opt_ParseData_out r) := by
  unfold f36_opt_ParseData at h
  refine At.fn (r := 0) Go.Proofs.Try.func36 rfl (by kernel_rfl) rfl rfl (by kernel_rfl) ?_
  show At Go.Proofs.Try.prog Go.Proofs.Try.f36 0 0 ⟨[(0, .one (.agg [.d (.int .u8 o__0), .d (.sl (.int .u8) o__1)]))], [], [], 0⟩ _
  refine At.step hm ht ⟨[], [], [], [1, 2], [0, 1]⟩ 1 ⟨[(1, .one (.c (.ptr 0 0))), (2, .one (.c (.ptr 1 0)))], [], [(0, [.d (.int .u8 o__0), .d (.sl (.int .u8) o__1)]), (1, [.d (.bool false), .d (.bool false), .d (.int .u64 0), .d (.int .u64 0), .d (.int .u32 0), .d (.int .u64 0)])], 2⟩ [] (by kernel_rfl) trivial ?_
  obtain ⟨r442_0, cr442_0, h⟩ := bindS h
  refine At.step hm ht ⟨[(3, .call [] [] (f81_pack_All_out r442_0))], [], [], [1, 2, 4, 5], [0, 1, 5]⟩ 2 ⟨[(1, .one (.c (.ptr 0 0))), (2, .one (.c (.ptr 1 0))), (4, .one (.c (.own 2 (.int .u64) r442_0.1))), (5, .one (.c (.d (.bool r442_0.2))))], [(2, some ⟨36, 0⟩)], [(0, [.d (.int .u8 o__0), .d (.sl (.int .u8) o__1)]), (1, [.d (.bool false), .d (.bool false), .d (.int .u64 0), .d (.int .u64 0), .d (.int .u32 0), .d (.int .u64 0)])], 3⟩ [FnOK Go.Proofs.Try.prog 81 (f81_pack_All_in o__1 [1, 8, 8, 4, 8]) (f81_pack_All_out r442_0)] (by kernel_rfl) ⟨(f81_pack_All_ok n o__1 [1, 8, 8, 4, 8] r442_0 cr442_0), trivial⟩ ?_
  rcases iteS h with ⟨b443_3, h⟩ | ⟨b443_3, h⟩
  · refine At.step hm ht ⟨[(3, .b true)], [true], [], [2], [1]⟩ 3 ⟨[(2, .one (.c (.ptr 0 0)))], [], [(0, [.d (.bool false), .d (.bool false), .d (.int .u64 0), .d (.int .u64 0), .d (.int .u32 0), .d (.int .u64 0)])], 1⟩ [((o__0 : Int) != 3) = true, true = true] (by kernel_rfl) ⟨b443_3, rfl, trivial⟩ ?_
    have h := Option.some.inj h
    subst h
    exact At.fin hm ht ⟨[], [], [], [2, 3], [0]⟩ [0 + 6 ≤ 6] (by kernel_rfl) ⟨(by decide), trivial⟩
  · rcases iteS h with ⟨b443_7, h⟩ | ⟨b443_7, h⟩
    · refine At.step hm ht ⟨[(3, .b false), (7, .b true)], [true], [], [2], [1]⟩ 3 ⟨[(2, .one (.c (.ptr 0 0)))], [], [(0, [.d (.bool false), .d (.bool false), .d (.int .u64 0), .d (.int .u64 0), .d (.int .u32 0), .d (.int .u64 0)])], 1⟩ [((o__0 : Int) != 3) = false, (!r442_0.2) = true, true = true] (by kernel_rfl) ⟨b443_3, b443_7, rfl, trivial⟩ ?_
      have h := Option.some.inj h
      subst h
      exact At.fin hm ht ⟨[], [], [], [2, 3], [0]⟩ [0 + 6 ≤ 6] (by kernel_rfl) ⟨(by decide), trivial⟩
    · obtain ⟨g443_0, h⟩ := ifS h
      rcases iteS h with ⟨b443_e0, h⟩ | ⟨b443_e0, h⟩
      · refine At.step hm ht ⟨[(3, .b false), (7, .b false)], [true], [], [2], [1]⟩ 3 ⟨[(2, .one (.c (.ptr 0 0)))], [], [(0, [.d (.bool false), .d (.bool false), .d (.int .u64 0), .d (.int .u64 0), .d (.int .u32 0), .d (.int .u64 0)])], 1⟩ [((o__0 : Int) != 3) = false, (!r442_0.2) = false, (0 : Int) ≤ 0 ∧ 0 < (((r442_0.1).length : Nat) : Int), (decide (((r442_0.1.getD 0 0) : Int) > 3)) = true] (by kernel_rfl) ⟨b443_3, b443_7, g443_0, b443_e0, trivial⟩ ?_
        have h := Option.some.inj h
        subst h
        exact At.fin hm ht ⟨[], [], [], [2, 3], [0]⟩ [0 + 6 ≤ 6] (by kernel_rfl) ⟨(by decide), trivial⟩
      · refine At.step hm ht ⟨[(3, .b false), (7, .b false)], [false], [], [2, 4], [1, 2]⟩ 4 ⟨[(2, .one (.c (.ptr 0 0))), (4, .one (.c (.own 1 (.int .u64) r442_0.1)))], [(1, some ⟨36, 0⟩)], [(0, [.d (.bool false), .d (.bool false), .d (.int .u64 0), .d (.int .u64 0), .d (.int .u32 0), .d (.int .u64 0)])], 2⟩ [((o__0 : Int) != 3) = false, (!r442_0.2) = false, (0 : Int) ≤ 0 ∧ 0 < (((r442_0.1).length : Nat) : Int), (decide (((r442_0.1.getD 0 0) : Int) > 3)) = false] (by kernel_rfl) ⟨b443_3, b443_7, g443_0, b443_e0, trivial⟩ ?_
        obtain ⟨g447_0, h⟩ := ifS h
        obtain ⟨g447_1, h⟩ := ifS h
        obtain ⟨g447_2, h⟩ := ifS h
        obtain ⟨g447_3, h⟩ := ifS h
        obtain ⟨g447_4, h⟩ := ifS h
        obtain ⟨g447_5, h⟩ := ifS h
        have h := Option.some.inj h
        subst h
        exact At.fin hm ht ⟨[], [], [], [2, 3], [0]⟩ [(0 : Int) ≤ 0 ∧ 0 < (((r442_0.1).length : Nat) : Int), (0 : Int) ≤ 0 ∧ 0 < (((r442_0.1).length : Nat) : Int), (0 : Int) ≤ 1 ∧ 1 < (((r442_0.1).length : Nat) : Int), (0 : Int) ≤ 2 ∧ 2 < (((r442_0.1).length : Nat) : Int), (0 : Int) ≤ 3 ∧ 3 < (((r442_0.1).length : Nat) : Int), (0 : Int) ≤ 4 ∧ 4 < (((r442_0.1).length : Nat) : Int), 0 + 6 ≤ 6] (by kernel_rfl) ⟨g447_0, g447_1, g447_2, g447_3, g447_4, g447_5, (by decide), trivial⟩
/-! brougham/broughamref08.ParseData -/
def f37_broughamref08_ParseData_in (o__0 : Int) (o__1 : List Int) : Inn := ⟨[.agg [.d (.int .u8 o__0), .d (.sl (.int .u8) o__1)]], [], [], 0⟩
def f37_broughamref08_ParseData_out (r : Bool × Bool × Bool × Int × Int × Int × Int) : Out := ⟨.tup [.agg [.d (.bool r.2.1), .d (.bool r.2.2.1), .d (.int .u64 r.2.2.2.1), .d (.int .u64 r.2.2.2.2.1), .d (.int .u32 r.2.2.2.2.2.1), .d (.int .u64 r.2.2.2.2.2.2)], .c (.d (.bool r.1))], [], [(0, [.d (.bool r.2.1), .d (.bool r.2.2.1), .d (.int .u64 r.2.2.2.1), .d (.int .u64 r.2.2.2.2.1), .d (.int .u32 r.2.2.2.2.2.1), .d (.int .u64 r.2.2.2.2.2.2)])], 1⟩
def f37_broughamref08_ParseData (n : Nat) (o__0 : Int) (o__1 : List Int) : Option (Bool × Bool × Bool × Int × Int × Int × Int) :=
  (f84_broughamref02_All n o__1 [1, 8, 8, 4, 8]).bind fun r450_0 =>
  if ((o__0 : Int) != 3) = true then
    some (false, false, false, 0, 0, 0, 0)
  else
    if (!r450_0.2.2) = true then
      some (false, false, false, 0, 0, 0, 0)
    else
      if (0 : Int) ≤ 0 ∧ 0 < (((r450_0.1).length : Nat) : Int) then
      if (decide (((r450_0.1.getD 0 0) : Int) > 3)) = true then
        some (false, false, false, 0, 0, 0, 0)
      else
        if ((((r450_0.2.1.length : Nat) : Int) : Int) != 0) = true then
          some (false, false, false, 0, 0, 0, 0)
        else
          if (0 : Int) ≤ 0 ∧ 0 < (((r450_0.1).length : Nat) : Int) then
          if (0 : Int) ≤ 0 ∧ 0 < (((r450_0.1).length : Nat) : Int) then
          if (0 : Int) ≤ 1 ∧ 1 < (((r450_0.1).length : Nat) : Int) then
          if (0 : Int) ≤ 2 ∧ 2 < (((r450_0.1).length : Nat) : Int) then
          if (0 : Int) ≤ 3 ∧ 3 < (((r450_0.1).length : Nat) : Int) then
          if (0 : Int) ≤ 4 ∧ 4 < (((r450_0.1).length : Nat) : Int) then
          some (true, (((Int.tmod (r450_0.1.getD 0 0) 2) : Int) == 1), (decide (((r450_0.1.getD 0 0) : Int) > 1)), (r450_0.1.getD 1 0), (r450_0.1.getD 2 0), (IntKind.wrap .u32 (r450_0.1.getD 3 0)), (r450_0.1.getD 4 0))
          else none
          else none
          else none
          else none
          else none
          else none
      else none
theorem f37_broughamref08_ParseData_ok (n : Nat) (o__0 : Int) (o__1 : List Int) (r : Bool × Bool × Bool × Int × Int × Int × Int) (h : f37_broughamref08_ParseData n o__0 o__1 = some r) : FnOK Go.Proofs.Try.prog 37 (f37_broughamref08_ParseData_in o__0 o__1) (f37_broughamref08_ParseData_out r) := by
  unfold f37_broughamref08_ParseData at h
  refine At.fn (r := 0) Go.Proofs.Try.func37 rfl (by kernel_rfl) rfl rfl (by kernel_rfl) ?_
  show At Go.Proofs.Try.prog Go.Proofs.Try.f37 0 0 ⟨[(0, .one (.agg [.d (.int .u8 o__0), .d (.sl (.int .u8) o__1)]))], [], [], 0⟩ _
  refine At.step hm ht ⟨[], [], [], [1, 2], [0, 1]⟩ 1 ⟨[(1, .one (.c (.ptr 0 0))), (2, .one (.c (.ptr 1 0)))], [], [(0, [.d (.int .u8 o__0), .d (.sl (.int .u8) o__1)]), (1, [.d (.bool false), .d (.bool false), .d (.int .u64 0), .d (.int .u64 0), .d (.int .u32 0), .d (.int .u64 0)])], 2⟩ [] (by kernel_rfl) trivial ?_
  obtain ⟨r450_0, cr450_0, h⟩ := bindS h
  refine At.step hm ht ⟨[(3, .call [] [] (f84_broughamref02_All_out r450_0))], [], [], [1, 2, 4, 5, 6], [0, 1, 5]⟩ 2 ⟨[(1, .one (.c (.ptr 0 0))), (2, .one (.c (.ptr 1 0))), (4, .one (.c (.own 2 (.int .u64) r450_0.1))), (5, .one (.c (.d (.sl (.int .u8) r450_0.2.1)))), (6, .one (.c (.d (.bool r450_0.2.2))))], [(2, some ⟨36, 0⟩)], [(0, [.d (.int .u8 o__0), .d (.sl (.int .u8) o__1)]), (1, [.d (.bool false), .d (.bool false), .d (.int .u64 0), .d (.int .u64 0), .d (.int .u32 0), .d (.int .u64 0)])], 3⟩ [FnOK Go.Proofs.Try.prog 84 (f84_broughamref02_All_in o__1 [1, 8, 8, 4, 8]) (f84_broughamref02_All_out r450_0)] (by kernel_rfl) ⟨(f84_broughamref02_All_ok n o__1 [1, 8, 8, 4, 8] r450_0 cr450_0), trivial⟩ ?_
  rcases iteS h with ⟨b451_3, h⟩ | ⟨b451_3, h⟩
  · refine At.step hm ht ⟨[(3, .b true)], [true], [], [2], [1]⟩ 3 ⟨[(2, .one (.c (.ptr 0 0)))], [], [(0, [.d (.bool false), .d (.bool false), .d (.int .u64 0), .d (.int .u64 0), .d (.int .u32 0), .d (.int .u64 0)])], 1⟩ [((o__0 : Int) != 3) = true, true = true] (by kernel_rfl) ⟨b451_3, rfl, trivial⟩ ?_
    have h := Option.some.inj h
    subst h
    exact At.fin hm ht ⟨[], [], [], [2, 3], [0]⟩ [0 + 6 ≤ 6] (by kernel_rfl) ⟨(by decide), trivial⟩
  · rcases iteS h with ⟨b451_7, h⟩ | ⟨b451_7, h⟩
    · refine At.step hm ht ⟨[(3, .b false), (7, .b true)], [true], [], [2], [1]⟩ 3 ⟨[(2, .one (.c (.ptr 0 0)))], [], [(0, [.d (.bool false), .d (.bool false), .d (.int .u64 0), .d (.int .u64 0), .d (.int .u32 0), .d (.int .u64 0)])], 1⟩ [((o__0 : Int) != 3) = false, (!r450_0.2.2) = true, true = true] (by kernel_rfl) ⟨b451_3, b451_7, rfl, trivial⟩ ?_
      have h := Option.some.inj h
      subst h
      exact At.fin hm ht ⟨[], [], [], [2, 3], [0]⟩ [0 + 6 ≤ 6] (by kernel_rfl) ⟨(by decide), trivial⟩
    · obtain ⟨g451_0, h⟩ := ifS h
      rcases iteS h with ⟨b451_13, h⟩ | ⟨b451_13, h⟩
      · refine At.step hm ht ⟨[(3, .b false), (7, .b false), (13, .b true)], [true], [], [2], [1]⟩ 3 ⟨[(2, .one (.c (.ptr 0 0)))], [], [(0, [.d (.bool false), .d (.bool false), .d (.int .u64 0), .d (.int .u64 0), .d (.int .u32 0), .d (.int .u64 0)])], 1⟩ [((o__0 : Int) != 3) = false, (!r450_0.2.2) = false, (0 : Int) ≤ 0 ∧ 0 < (((r450_0.1).length : Nat) : Int), (decide (((r450_0.1.getD 0 0) : Int) > 3)) = true, true = true] (by kernel_rfl) ⟨b451_3, b451_7, g451_0, b451_13, rfl, trivial⟩ ?_
        have h := Option.some.inj h
        subst h
        exact At.fin hm ht ⟨[], [], [], [2, 3], [0]⟩ [0 + 6 ≤ 6] (by kernel_rfl) ⟨(by decide), trivial⟩
      · rcases iteS h with ⟨b451_e0, h⟩ | ⟨b451_e0, h⟩
        · refine At.step hm ht ⟨[(3, .b false), (7, .b false), (13, .b false)], [true], [], [2], [1]⟩ 3 ⟨[(2, .one (.c (.ptr 0 0)))], [], [(0, [.d (.bool false), .d (.bool false), .d (.int .u64 0), .d (.int .u64 0), .d (.int .u32 0), .d (.int .u64 0)])], 1⟩ [((o__0 : Int) != 3) = false, (!r450_0.2.2) = false, (0 : Int) ≤ 0 ∧ 0 < (((r450_0.1).length : Nat) : Int), (decide (((r450_0.1.getD 0 0) : Int) > 3)) = false, ((((r450_0.2.1.length : Nat) : Int) : Int) != 0) = true] (by kernel_rfl) ⟨b451_3, b451_7, g451_0, b451_13, b451_e0, trivial⟩ ?_
          have h := Option.some.inj h
          subst h
          exact At.fin hm ht ⟨[], [], [], [2, 3], [0]⟩ [0 + 6 ≤ 6] (by kernel_rfl) ⟨(by decide), trivial⟩
        · refine At.step hm ht ⟨[(3, .b false), (7, .b false), (13, .b false)], [false], [], [2, 4], [1, 2]⟩ 4 ⟨[(2, .one (.c (.ptr 0 0))), (4, .one (.c (.own 1 (.int .u64) r450_0.1)))], [(1, some ⟨36, 0⟩)], [(0, [.d (.bool false), .d (.bool false), .d (.int .u64 0), .d (.int .u64 0), .d (.int .u32 0), .d (.int .u64 0)])], 2⟩ [((o__0 : Int) != 3) = false, (!r450_0.2.2) = false, (0 : Int) ≤ 0 ∧ 0 < (((r450_0.1).length : Nat) : Int), (decide (((r450_0.1.getD 0 0) : Int) > 3)) = false, ((((r450_0.2.1.length : Nat) : Int) : Int) != 0) = false] (by kernel_rfl) ⟨b451_3, b451_7, g451_0, b451_13, b451_e0, trivial⟩ ?_
          obtain ⟨g456_0, h⟩ := ifS h
          obtain ⟨g456_1, h⟩ := ifS h
          obtain ⟨g456_2, h⟩ := ifS h
          obtain ⟨g456_3, h⟩ := ifS h
          obtain ⟨g456_4, h⟩ := ifS h
          obtain ⟨g456_5, h⟩ := ifS h
          have h := Option.some.inj h
          subst h
          exact At.fin hm ht ⟨[], [], [], [2, 3], [0]⟩ [(0 : Int) ≤ 0 ∧ 0 < (((r450_0.1).length : Nat) : Int), (2 : Int) ≠ 0, (0 : Int) ≤ 0 ∧ 0 < (((r450_0.1).length : Nat) : Int), (0 : Int) ≤ 1 ∧ 1 < (((r450_0.1).length : Nat) : Int), (0 : Int) ≤ 2 ∧ 2 < (((r450_0.1).length : Nat) : Int), (0 : Int) ≤ 3 ∧ 3 < (((r450_0.1).length : Nat) : Int), (0 : Int) ≤ 4 ∧ 4 < (((r450_0.1).length : Nat) : Int), 0 + 6 ≤ 6] (by kernel_rfl) ⟨g456_0, (by decide), g456_1, g456_2, g456_3, g456_4, g456_5, (by decide), trivial⟩
/-! brougham/opt.ParseWord -/
def f38_opt_ParseWord_in (o__0 : Int) (o__1 : List Int) : Inn := ⟨[.agg [.d (.int .u8 o__0), .d (.sl (.int .u8) o__1)]], [], [], 0⟩
def f38_opt_ParseWord_out (r : Bool × Int × Int × Int × Int × Bool × Int) : Out := ⟨.tup [.agg [.d (.int .u8 r.2.1), .d (.int .u32 r.2.2.1), .d (.int .u8 r.2.2.2.1), .d (.int .u8 r.2.2.2.2.1), .d (.bool r.2.2.2.2.2.1), .d (.int .u64 r.2.2.2.2.2.2)], .c (.d (.bool r.1))], [], [(0, [.d (.int .u8 r.2.1), .d (.int .u32 r.2.2.1), .d (.int .u8 r.2.2.2.1), .d (.int .u8 r.2.2.2.2.1), .d (.bool r.2.2.2.2.2.1), .d (.int .u64 r.2.2.2.2.2.2)])], 1⟩
def f38_opt_ParseWord (n : Nat) (o__0 : Int) (o__1 : List Int) : Option (Bool × Int × Int × Int × Int × Bool × Int) :=
  (f81_pack_All n o__1 [4, 1, 1, 1, 8]).bind fun r462_0 =>
  if (decide ((o__0 : Int) < 4)) = true then
    some (false, 0, 0, 0, 0, false, 0)
  else
    if (decide ((o__0 : Int) > 7)) = true then
      some (false, 0, 0, 0, 0, false, 0)
    else
      if (!r462_0.2) = true then
        some (false, 0, 0, 0, 0, false, 0)
      else
        if (0 : Int) ≤ 3 ∧ 3 < (((r462_0.1).length : Nat) : Int) then
        if (decide (((r462_0.1.getD 3 0) : Int) > 1)) = true then
          some (false, 0, 0, 0, 0, false, 0)
        else
          if (0 : Int) ≤ 0 ∧ 0 < (((r462_0.1).length : Nat) : Int) then
          if (0 : Int) ≤ 1 ∧ 1 < (((r462_0.1).length : Nat) : Int) then
          if (0 : Int) ≤ 2 ∧ 2 < (((r462_0.1).length : Nat) : Int) then
          if (0 : Int) ≤ 3 ∧ 3 < (((r462_0.1).length : Nat) : Int) then
          if (0 : Int) ≤ 4 ∧ 4 < (((r462_0.1).length : Nat) : Int) then
          some (true, o__0, (IntKind.wrap .u32 (r462_0.1.getD 0 0)), (IntKind.wrap .u8 (r462_0.1.getD 1 0)), (IntKind.wrap .u8 (r462_0.1.getD 2 0)), (((r462_0.1.getD 3 0) : Int) == 1), (r462_0.1.getD 4 0))
          else none
          else none
          else none
          else none
          else none
        else none
theorem f38_opt_ParseWord_ok (n : Nat) (o__0 : Int) (o__1 : List Int) (r : Bool × Int × Int × Int × Int × Bool × Int) (h : f38_opt_ParseWord n o__0 o__1 = some r) : FnOK Go.Proofs.Try.prog 38 (f38_opt_ParseWord_in o__0 o__1) (f38_opt_ParseWord_out r) := by
  unfold f38_opt_ParseWord at h
  refine At.fn (r := 0) Go.Proofs.Try.func38 rfl (by kernel_rfl) rfl rfl (by kernel_rfl) ?_
  show At Go.Proofs.Try.prog Go.Proofs.Try.f38 0 0 ⟨[(0, .one (.agg [.d (.int .u8 o__0), .d (.sl (.int .u8) o__1)]))], [], [], 0⟩ _
  refine At.step hm ht ⟨[], [], [], [1, 2], [0, 1]⟩ 1 ⟨[(1, .one (.c (.ptr 0 0))), (2, .one (.c (.ptr 1 0)))], [], [(0, [.d (.int .u8 o__0), .d (.sl (.int .u8) o__1)]), (1, [.d (.int .u8 0), .d (.int .u32 0), .d (.int .u8 0), .d (.int .u8 0), .d (.bool false), .d (.int .u64 0)])], 2⟩ [] (by kernel_rfl) trivial ?_
  obtain ⟨r462_0, cr462_0, h⟩ := bindS h
  refine At.step hm ht ⟨[(3, .call [] [] (f81_pack_All_out r462_0))], [], [], [1, 2, 4, 5], [0, 1, 5]⟩ 2 ⟨[(1, .one (.c (.ptr 0 0))), (2, .one (.c (.ptr 1 0))), (4, .one (.c (.own 2 (.int .u64) r462_0.1))), (5, .one (.c (.d (.bool r462_0.2))))], [(2, some ⟨36, 0⟩)], [(0, [.d (.int .u8 o__0), .d (.sl (.int .u8) o__1)]), (1, [.d (.int .u8 0), .d (.int .u32 0), .d (.int .u8 0), .d (.int .u8 0), .d (.bool false), .d (.int .u64 0)])], 3⟩ [FnOK Go.Proofs.Try.prog 81 (f81_pack_All_in o__1 [4, 1, 1, 1, 8]) (f81_pack_All_out r462_0)] (by kernel_rfl) ⟨(f81_pack_All_ok n o__1 [4, 1, 1, 1, 8] r462_0 cr462_0), trivial⟩ ?_
  rcases iteS h with ⟨b463_3, h⟩ | ⟨b463_3, h⟩
  · refine At.step hm ht ⟨[(3, .b true)], [true], [], [2], [1]⟩ 3 ⟨[(2, .one (.c (.ptr 0 0)))], [], [(0, [.d (.int .u8 0), .d (.int .u32 0), .d (.int .u8 0), .d (.int .u8 0), .d (.bool false), .d (.int .u64 0)])], 1⟩ [(decide ((o__0 : Int) < 4)) = true, true = true] (by kernel_rfl) ⟨b463_3, rfl, trivial⟩ ?_
    have h := Option.some.inj h
    subst h
    exact At.fin hm ht ⟨[], [], [], [2, 3], [0]⟩ [0 + 6 ≤ 6] (by kernel_rfl) ⟨(by decide), trivial⟩
  · rcases iteS h with ⟨b463_8, h⟩ | ⟨b463_8, h⟩
    · refine At.step hm ht ⟨[(3, .b false), (8, .b true)], [true], [], [2], [1]⟩ 3 ⟨[(2, .one (.c (.ptr 0 0)))], [], [(0, [.d (.int .u8 0), .d (.int .u32 0), .d (.int .u8 0), .d (.int .u8 0), .d (.bool false), .d (.int .u64 0)])], 1⟩ [(decide ((o__0 : Int) < 4)) = false, (decide ((o__0 : Int) > 7)) = true, true = true] (by kernel_rfl) ⟨b463_3, b463_8, rfl, trivial⟩ ?_
      have h := Option.some.inj h
      subst h
      exact At.fin hm ht ⟨[], [], [], [2, 3], [0]⟩ [0 + 6 ≤ 6] (by kernel_rfl) ⟨(by decide), trivial⟩
    · rcases iteS h with ⟨b463_12, h⟩ | ⟨b463_12, h⟩
      · refine At.step hm ht ⟨[(3, .b false), (8, .b false), (12, .b true)], [true], [], [2], [1]⟩ 3 ⟨[(2, .one (.c (.ptr 0 0)))], [], [(0, [.d (.int .u8 0), .d (.int .u32 0), .d (.int .u8 0), .d (.int .u8 0), .d (.bool false), .d (.int .u64 0)])], 1⟩ [(decide ((o__0 : Int) < 4)) = false, (decide ((o__0 : Int) > 7)) = false, (!r462_0.2) = true, true = true] (by kernel_rfl) ⟨b463_3, b463_8, b463_12, rfl, trivial⟩ ?_
        have h := Option.some.inj h
        subst h
        exact At.fin hm ht ⟨[], [], [], [2, 3], [0]⟩ [0 + 6 ≤ 6] (by kernel_rfl) ⟨(by decide), trivial⟩
      · obtain ⟨g463_0, h⟩ := ifS h
        rcases iteS h with ⟨b463_e0, h⟩ | ⟨b463_e0, h⟩
        · refine At.step hm ht ⟨[(3, .b false), (8, .b false), (12, .b false)], [true], [], [2], [1]⟩ 3 ⟨[(2, .one (.c (.ptr 0 0)))], [], [(0, [.d (.int .u8 0), .d (.int .u32 0), .d (.int .u8 0), .d (.int .u8 0), .d (.bool false), .d (.int .u64 0)])], 1⟩ [(decide ((o__0 : Int) < 4)) = false, (decide ((o__0 : Int) > 7)) = false, (!r462_0.2) = false, (0 : Int) ≤ 3 ∧ 3 < (((r462_0.1).length : Nat) : Int), (decide (((r462_0.1.getD 3 0) : Int) > 1)) = true] (by kernel_rfl) ⟨b463_3, b463_8, b463_12, g463_0, b463_e0, trivial⟩ ?_
          have h := Option.some.inj h
          subst h
          exact At.fin hm ht ⟨[], [], [], [2, 3], [0]⟩ [0 + 6 ≤ 6] (by kernel_rfl) ⟨(by decide), trivial⟩
        · refine At.step hm ht ⟨[(3, .b false), (8, .b false), (12, .b false)], [false], [], [1, 2, 4], [0, 1, 2]⟩ 4 ⟨[(1, .one (.c (.ptr 0 0))), (2, .one (.c (.ptr 1 0))), (4, .one (.c (.own 2 (.int .u64) r462_0.1)))], [(2, some ⟨36, 0⟩)], [(0, [.d (.int .u8 o__0), .d (.sl (.int .u8) o__1)]), (1, [.d (.int .u8 0), .d (.int .u32 0), .d (.int .u8 0), .d (.int .u8 0), .d (.bool false), .d (.int .u64 0)])], 3⟩ [(decide ((o__0 : Int) < 4)) = false, (decide ((o__0 : Int) > 7)) = false, (!r462_0.2) = false, (0 : Int) ≤ 3 ∧ 3 < (((r462_0.1).length : Nat) : Int), (decide (((r462_0.1.getD 3 0) : Int) > 1)) = false] (by kernel_rfl) ⟨b463_3, b463_8, b463_12, g463_0, b463_e0, trivial⟩ ?_
          obtain ⟨g468_0, h⟩ := ifS h
          obtain ⟨g468_1, h⟩ := ifS h
          obtain ⟨g468_2, h⟩ := ifS h
          obtain ⟨g468_3, h⟩ := ifS h
          obtain ⟨g468_4, h⟩ := ifS h
          have h := Option.some.inj h
          subst h
          exact At.fin hm ht ⟨[], [], [], [2, 3], [1]⟩ [(0 : Int) ≤ 0 ∧ 0 < (((r462_0.1).length : Nat) : Int), (0 : Int) ≤ 1 ∧ 1 < (((r462_0.1).length : Nat) : Int), (0 : Int) ≤ 2 ∧ 2 < (((r462_0.1).length : Nat) : Int), (0 : Int) ≤ 3 ∧ 3 < (((r462_0.1).length : Nat) : Int), (0 : Int) ≤ 4 ∧ 4 < (((r462_0.1).length : Nat) : Int), 0 + 6 ≤ 6] (by kernel_rfl) ⟨g468_0, g468_1, g468_2, g468_3, g468_4, (by decide), trivial⟩
/-! brougham/broughamref08.ParseWord -/
def f39_broughamref08_ParseWord_in (o__0 : Int) (o__1 : List Int) : Inn := ⟨[.agg [.d (.int .u8 o__0), .d (.sl (.int .u8) o__1)]], [], [], 0⟩
def f39_broughamref08_ParseWord_out (r : Bool × Int × Int × Int × Bool × Int) : Out := ⟨.tup [.agg [.d (.int .u32 r.2.1), .d (.int .u8 r.2.2.1), .d (.int .u8 r.2.2.2.1), .d (.bool r.2.2.2.2.1), .d (.int .u64 r.2.2.2.2.2)], .c (.d (.bool r.1))], [], [(0, [.d (.int .u32 r.2.1), .d (.int .u8 r.2.2.1), .d (.int .u8 r.2.2.2.1), .d (.bool r.2.2.2.2.1), .d (.int .u64 r.2.2.2.2.2)])], 1⟩
def f39_broughamref08_ParseWord (n : Nat) (o__0 : Int) (o__1 : List Int) : Option (Bool × Int × Int × Int × Bool × Int) :=
  (f84_broughamref02_All n o__1 [4, 1, 1, 1, 8]).bind fun r471_0 =>
  if (decide ((o__0 : Int) < 4)) = true then
    some (false, 0, 0, 0, false, 0)
  else
    if (decide ((o__0 : Int) > 7)) = true then
      some (false, 0, 0, 0, false, 0)
    else
      if (!r471_0.2.2) = true then
        some (false, 0, 0, 0, false, 0)
      else
        if (0 : Int) ≤ 3 ∧ 3 < (((r471_0.1).length : Nat) : Int) then
        if (decide (((r471_0.1.getD 3 0) : Int) > 1)) = true then
          some (false, 0, 0, 0, false, 0)
        else
          if ((((r471_0.2.1.length : Nat) : Int) : Int) != 0) = true then
            some (false, 0, 0, 0, false, 0)
          else
            if (0 : Int) ≤ 0 ∧ 0 < (((r471_0.1).length : Nat) : Int) then
            if (0 : Int) ≤ 1 ∧ 1 < (((r471_0.1).length : Nat) : Int) then
            if (0 : Int) ≤ 2 ∧ 2 < (((r471_0.1).length : Nat) : Int) then
            if (0 : Int) ≤ 3 ∧ 3 < (((r471_0.1).length : Nat) : Int) then
            if (0 : Int) ≤ 4 ∧ 4 < (((r471_0.1).length : Nat) : Int) then
            some (true, (IntKind.wrap .u32 (r471_0.1.getD 0 0)), (IntKind.wrap .u8 (r471_0.1.getD 1 0)), (IntKind.wrap .u8 (r471_0.1.getD 2 0)), (((r471_0.1.getD 3 0) : Int) == 1), (r471_0.1.getD 4 0))
            else none
            else none
            else none
            else none
            else none
        else none
theorem f39_broughamref08_ParseWord_ok (n : Nat) (o__0 : Int) (o__1 : List Int) (r : Bool × Int × Int × Int × Bool × Int) (h : f39_broughamref08_ParseWord n o__0 o__1 = some r) : FnOK Go.Proofs.Try.prog 39 (f39_broughamref08_ParseWord_in o__0 o__1) (f39_broughamref08_ParseWord_out r) := by
  unfold f39_broughamref08_ParseWord at h
  refine At.fn (r := 0) Go.Proofs.Try.func39 rfl (by kernel_rfl) rfl rfl (by kernel_rfl) ?_
  show At Go.Proofs.Try.prog Go.Proofs.Try.f39 0 0 ⟨[(0, .one (.agg [.d (.int .u8 o__0), .d (.sl (.int .u8) o__1)]))], [], [], 0⟩ _
  refine At.step hm ht ⟨[], [], [], [1, 2], [0, 1]⟩ 1 ⟨[(1, .one (.c (.ptr 0 0))), (2, .one (.c (.ptr 1 0)))], [], [(0, [.d (.int .u8 o__0), .d (.sl (.int .u8) o__1)]), (1, [.d (.int .u32 0), .d (.int .u8 0), .d (.int .u8 0), .d (.bool false), .d (.int .u64 0)])], 2⟩ [] (by kernel_rfl) trivial ?_
  obtain ⟨r471_0, cr471_0, h⟩ := bindS h
  refine At.step hm ht ⟨[(3, .call [] [] (f84_broughamref02_All_out r471_0))], [], [], [1, 2, 4, 5, 6], [0, 1, 5]⟩ 2 ⟨[(1, .one (.c (.ptr 0 0))), (2, .one (.c (.ptr 1 0))), (4, .one (.c (.own 2 (.int .u64) r471_0.1))), (5, .one (.c (.d (.sl (.int .u8) r471_0.2.1)))), (6, .one (.c (.d (.bool r471_0.2.2))))], [(2, some ⟨36, 0⟩)], [(0, [.d (.int .u8 o__0), .d (.sl (.int .u8) o__1)]), (1, [.d (.int .u32 0), .d (.int .u8 0), .d (.int .u8 0), .d (.bool false), .d (.int .u64 0)])], 3⟩ [FnOK Go.Proofs.Try.prog 84 (f84_broughamref02_All_in o__1 [4, 1, 1, 1, 8]) (f84_broughamref02_All_out r471_0)] (by kernel_rfl) ⟨(f84_broughamref02_All_ok n o__1 [4, 1, 1, 1, 8] r471_0 cr471_0), trivial⟩ ?_
  rcases iteS h with ⟨b472_3, h⟩ | ⟨b472_3, h⟩
  · refine At.step hm ht ⟨[(3, .b true)], [true], [], [2], [1]⟩ 3 ⟨[(2, .one (.c (.ptr 0 0)))], [], [(0, [.d (.int .u32 0), .d (.int .u8 0), .d (.int .u8 0), .d (.bool false), .d (.int .u64 0)])], 1⟩ [(decide ((o__0 : Int) < 4)) = true, true = true] (by kernel_rfl) ⟨b472_3, rfl, trivial⟩ ?_
    have h := Option.some.inj h
    subst h
    exact At.fin hm ht ⟨[], [], [], [2, 3], [0]⟩ [0 + 5 ≤ 5] (by kernel_rfl) ⟨(by decide), trivial⟩
  · rcases iteS h with ⟨b472_8, h⟩ | ⟨b472_8, h⟩
    · refine At.step hm ht ⟨[(3, .b false), (8, .b true)], [true], [], [2], [1]⟩ 3 ⟨[(2, .one (.c (.ptr 0 0)))], [], [(0, [.d (.int .u32 0), .d (.int .u8 0), .d (.int .u8 0), .d (.bool false), .d (.int .u64 0)])], 1⟩ [(decide ((o__0 : Int) < 4)) = false, (decide ((o__0 : Int) > 7)) = true, true = true] (by kernel_rfl) ⟨b472_3, b472_8, rfl, trivial⟩ ?_
      have h := Option.some.inj h
      subst h
      exact At.fin hm ht ⟨[], [], [], [2, 3], [0]⟩ [0 + 5 ≤ 5] (by kernel_rfl) ⟨(by decide), trivial⟩
    · rcases iteS h with ⟨b472_12, h⟩ | ⟨b472_12, h⟩
      · refine At.step hm ht ⟨[(3, .b false), (8, .b false), (12, .b true)], [true], [], [2], [1]⟩ 3 ⟨[(2, .one (.c (.ptr 0 0)))], [], [(0, [.d (.int .u32 0), .d (.int .u8 0), .d (.int .u8 0), .d (.bool false), .d (.int .u64 0)])], 1⟩ [(decide ((o__0 : Int) < 4)) = false, (decide ((o__0 : Int) > 7)) = false, (!r471_0.2.2) = true, true = true] (by kernel_rfl) ⟨b472_3, b472_8, b472_12, rfl, trivial⟩ ?_
        have h := Option.some.inj h
        subst h
        exact At.fin hm ht ⟨[], [], [], [2, 3], [0]⟩ [0 + 5 ≤ 5] (by kernel_rfl) ⟨(by decide), trivial⟩
      · obtain ⟨g472_0, h⟩ := ifS h
        rcases iteS h with ⟨b472_18, h⟩ | ⟨b472_18, h⟩
        · refine At.step hm ht ⟨[(3, .b false), (8, .b false), (12, .b false), (18, .b true)], [true], [], [2], [1]⟩ 3 ⟨[(2, .one (.c (.ptr 0 0)))], [], [(0, [.d (.int .u32 0), .d (.int .u8 0), .d (.int .u8 0), .d (.bool false), .d (.int .u64 0)])], 1⟩ [(decide ((o__0 : Int) < 4)) = false, (decide ((o__0 : Int) > 7)) = false, (!r471_0.2.2) = false, (0 : Int) ≤ 3 ∧ 3 < (((r471_0.1).length : Nat) : Int), (decide (((r471_0.1.getD 3 0) : Int) > 1)) = true, true = true] (by kernel_rfl) ⟨b472_3, b472_8, b472_12, g472_0, b472_18, rfl, trivial⟩ ?_
          have h := Option.some.inj h
          subst h
          exact At.fin hm ht ⟨[], [], [], [2, 3], [0]⟩ [0 + 5 ≤ 5] (by kernel_rfl) ⟨(by decide), trivial⟩
        · rcases iteS h with ⟨b472_e0, h⟩ | ⟨b472_e0, h⟩
          · refine At.step hm ht ⟨[(3, .b false), (8, .b false), (12, .b false), (18, .b false)], [true], [], [2], [1]⟩ 3 ⟨[(2, .one (.c (.ptr 0 0)))], [], [(0, [.d (.int .u32 0), .d (.int .u8 0), .d (.int .u8 0), .d (.bool false), .d (.int .u64 0)])], 1⟩ [(decide ((o__0 : Int) < 4)) = false, (decide ((o__0 : Int) > 7)) = false, (!r471_0.2.2) = false, (0 : Int) ≤ 3 ∧ 3 < (((r471_0.1).length : Nat) : Int), (decide (((r471_0.1.getD 3 0) : Int) > 1)) = false, ((((r471_0.2.1.length : Nat) : Int) : Int) != 0) = true] (by kernel_rfl) ⟨b472_3, b472_8, b472_12, g472_0, b472_18, b472_e0, trivial⟩ ?_
            have h := Option.some.inj h
            subst h
            exact At.fin hm ht ⟨[], [], [], [2, 3], [0]⟩ [0 + 5 ≤ 5] (by kernel_rfl) ⟨(by decide), trivial⟩
          · refine At.step hm ht ⟨[(3, .b false), (8, .b false), (12, .b false), (18, .b false)], [false], [], [2, 4], [1, 2]⟩ 4 ⟨[(2, .one (.c (.ptr 0 0))), (4, .one (.c (.own 1 (.int .u64) r471_0.1)))], [(1, some ⟨36, 0⟩)], [(0, [.d (.int .u32 0), .d (.int .u8 0), .d (.int .u8 0), .d (.bool false), .d (.int .u64 0)])], 2⟩ [(decide ((o__0 : Int) < 4)) = false, (decide ((o__0 : Int) > 7)) = false, (!r471_0.2.2) = false, (0 : Int) ≤ 3 ∧ 3 < (((r471_0.1).length : Nat) : Int), (decide (((r471_0.1.getD 3 0) : Int) > 1)) = false, ((((r471_0.2.1.length : Nat) : Int) : Int) != 0) = false] (by kernel_rfl) ⟨b472_3, b472_8, b472_12, g472_0, b472_18, b472_e0, trivial⟩ ?_
            obtain ⟨g478_0, h⟩ := ifS h
            obtain ⟨g478_1, h⟩ := ifS h
            obtain ⟨g478_2, h⟩ := ifS h
            obtain ⟨g478_3, h⟩ := ifS h
            obtain ⟨g478_4, h⟩ := ifS h
            have h := Option.some.inj h
            subst h
            exact At.fin hm ht ⟨[], [], [], [2, 3], [0]⟩ [(0 : Int) ≤ 0 ∧ 0 < (((r471_0.1).length : Nat) : Int), (0 : Int) ≤ 1 ∧ 1 < (((r471_0.1).length : Nat) : Int), (0 : Int) ≤ 2 ∧ 2 < (((r471_0.1).length : Nat) : Int), (0 : Int) ≤ 3 ∧ 3 < (((r471_0.1).length : Nat) : Int), (0 : Int) ≤ 4 ∧ 4 < (((r471_0.1).length : Nat) : Int), 0 + 5 ≤ 5] (by kernel_rfl) ⟨g478_0, g478_1, g478_2, g478_3, g478_4, (by decide), trivial⟩
end Go.Proofs.YtddglebabaaghaaF08
