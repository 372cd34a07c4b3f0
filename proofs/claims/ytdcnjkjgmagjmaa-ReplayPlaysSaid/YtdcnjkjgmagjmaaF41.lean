/- What the functions compute, and that they do: printed by a program of this session (zgen.py), proved by Zed. -/
import Derived.Test.YtdcnjkjgmagjmaaProg
import Derived.Test.YtdcnjkjgmagjmaaZedY
namespace Go.Proofs.YtdcnjkjgmagjmaaF41
open Go Zed
set_option maxRecDepth 100000
set_option linter.unusedVariables false
def tab : Tab := [(3, ⟨.int .i64, 1, 8, [.int .i64 0], some (.int .i64), none⟩), (4, ⟨.bool, 1, 1, [.bool false], some .bool, none⟩), (49, ⟨.int .u64, 1, 8, [.int .u64 0], some (.int .u64), none⟩), (73, ⟨.slice 49, 1, 24, [.sl .unit []], some (.slice (.int .u64)), none⟩), (74, ⟨.arr 4 49, 4, 32, [.int .u64 0, .int .u64 0, .int .u64 0, .int .u64 0], some (.pair (.int .u64) (.pair (.int .u64) (.pair (.int .u64) (.int .u64)))), none⟩), (76, ⟨.struct [(0, 4), (1, 49), (2, 74)], 6, 48, [.bool false, .int .u64 0, .int .u64 0, .int .u64 0, .int .u64 0, .int .u64 0], some (.pair .bool (.pair (.int .u64) (.pair (.int .u64) (.pair (.int .u64) (.pair (.int .u64) (.int .u64)))))), some [(0, 4), (1, 49), (2, 74)]⟩)]
theorem ht : TabOk Go.Proofs.Try.prog tab := tabOk_of (ts := [3, 4, 49, 73, 74, 76]) (by kernel_rfl)
theorem hm : Go.Proofs.Try.prog.follows .mixedOrders = true := by kernel_rfl
/-! brougham/replay.at -/
def f72_replay_at_in (n_ : Int) : Inn := ⟨[.c (.d (.int .u64 n_))], [], [], 0⟩
def f72_replay_at_out (r : Int × Int) : Out := ⟨.tup [.c (.d (.int .i64 r.1)), .c (.d (.int .u64 r.2))], [], [], 0⟩
def f72_replay_at (n_ : Int) : Option (Int × Int) :=
  if (0 : Int) ≤ (Int.tmod (Int.tmod n_ 256) 64) then
  some ((IntKind.wrap .i64 (IntKind.wrap .u64 (Int.tdiv (Int.tmod n_ 256) 64))), (IntKind.wrap .u64 (1 * 2 ^ (min (Int.tmod (Int.tmod n_ 256) 64).toNat (IntKind.bits .u64)))))
  else none
theorem f72_replay_at_ok (n_ : Int) (r : Int × Int) (h : f72_replay_at n_ = some r) : FnOK Go.Proofs.Try.prog 72 (f72_replay_at_in n_) (f72_replay_at_out r) := by
  unfold f72_replay_at at h
  refine At.fn (r := 0) Go.Proofs.Try.func72 rfl (by kernel_rfl) rfl rfl (by kernel_rfl) ?_
  show At Go.Proofs.Try.prog Go.Proofs.Try.f72 0 0 ⟨[(0, .one (.c (.d (.int .u64 n_))))], [], [], 0⟩ _
  refine At.step hm ht ⟨[], [], [], [0], []⟩ 1 ⟨[(0, .one (.c (.d (.int .u64 n_))))], [], [], 0⟩ [] (by kernel_rfl) trivial ?_
  refine At.step hm ht ⟨[], [], [], [4], []⟩ 2 ⟨[(4, .one (.c (.d (.int .u64 (Int.tmod n_ 256)))))], [], [], 0⟩ [(256 : Int) ≠ 0] (by kernel_rfl) ⟨(by decide), trivial⟩ ?_
  obtain ⟨g28_0, h⟩ := ifS h
  have h := Option.some.inj h
  subst h
  exact At.fin hm ht ⟨[], [], [], [2, 3], []⟩ [(64 : Int) ≠ 0, (64 : Int) ≠ 0, (0 : Int) ≤ (Int.tmod (Int.tmod n_ 256) 64)] (by kernel_rfl) ⟨(by decide), (by decide), g28_0, trivial⟩
/-! (*brougham/replay.Window).Fresh -/
def f34_replay_Window_Fresh_in (n_ : Int) (w__0 : Bool) (w__1 : Int) (w__2 : Int) (w__3 : Int) (w__4 : Int) (w__5 : Int) : Inn := ⟨[.c (.ptr 0 0), .c (.d (.int .u64 n_))], [], [(0, [.d (.bool w__0), .d (.int .u64 w__1), .d (.int .u64 w__2), .d (.int .u64 w__3), .d (.int .u64 w__4), .d (.int .u64 w__5)])], 1⟩
def f34_replay_Window_Fresh_out (r : Bool × Bool × Int × Int × Int × Int × Int) : Out := ⟨.one (.c (.d (.bool r.1))), [], [(0, [.d (.bool r.2.1), .d (.int .u64 r.2.2.1), .d (.int .u64 r.2.2.2.1), .d (.int .u64 r.2.2.2.2.1), .d (.int .u64 r.2.2.2.2.2.1), .d (.int .u64 r.2.2.2.2.2.2)])], 1⟩
def f34_replay_Window_Fresh (n_ : Int) (w__0 : Bool) (w__1 : Int) (w__2 : Int) (w__3 : Int) (w__4 : Int) (w__5 : Int) : Option (Bool × Bool × Int × Int × Int × Int × Int) :=
  if (!w__0) = true then
    some (true, w__0, w__1, w__2, w__3, w__4, w__5)
  else
    if (decide ((n_ : Int) > w__1)) = true then
      some (true, w__0, w__1, w__2, w__3, w__4, w__5)
    else
      if (decide (((IntKind.wrap .u64 (w__1 - n_)) : Int) ≥ 256)) = true then
        some (false, w__0, w__1, w__2, w__3, w__4, w__5)
      else
        (f72_replay_at n_).bind fun r25_0 =>
        if (0 : Int) ≤ r25_0.1 ∧ r25_0.1 < ((4 : Nat) : Int) then
        some ((((bits .and .u64 (([w__2, w__3, w__4, w__5] : List Int).getD r25_0.1.toNat 0) r25_0.2) : Int) == 0), w__0, w__1, w__2, w__3, w__4, w__5)
        else none
theorem f34_replay_Window_Fresh_ok (n_ : Int) (w__0 : Bool) (w__1 : Int) (w__2 : Int) (w__3 : Int) (w__4 : Int) (w__5 : Int) (r : Bool × Bool × Int × Int × Int × Int × Int) (h : f34_replay_Window_Fresh n_ w__0 w__1 w__2 w__3 w__4 w__5 = some r) : FnOK Go.Proofs.Try.prog 34 (f34_replay_Window_Fresh_in n_ w__0 w__1 w__2 w__3 w__4 w__5) (f34_replay_Window_Fresh_out r) := by
  unfold f34_replay_Window_Fresh at h
  refine At.fn (r := 0) Go.Proofs.Try.func34 rfl (by kernel_rfl) rfl rfl (by kernel_rfl) ?_
  show At Go.Proofs.Try.prog Go.Proofs.Try.f34 1 0 ⟨[(0, .one (.c (.ptr 0 0))), (1, .one (.c (.d (.int .u64 n_))))], [], [(0, [.d (.bool w__0), .d (.int .u64 w__1), .d (.int .u64 w__2), .d (.int .u64 w__3), .d (.int .u64 w__4), .d (.int .u64 w__5)])], 1⟩ _
  refine At.step hm ht ⟨[], [], [], [0, 1], [0]⟩ 1 ⟨[(0, .one (.c (.ptr 0 0))), (1, .one (.c (.d (.int .u64 n_))))], [], [(0, [.d (.bool w__0), .d (.int .u64 w__1), .d (.int .u64 w__2), .d (.int .u64 w__3), .d (.int .u64 w__4), .d (.int .u64 w__5)])], 1⟩ [] (by kernel_rfl) trivial ?_
  rcases iteS h with ⟨b20_5, h⟩ | ⟨b20_5, h⟩
  · refine At.step hm ht ⟨[(5, .b true)], [true], [], [], [0]⟩ 2 ⟨[], [], [(0, [.d (.bool w__0), .d (.int .u64 w__1), .d (.int .u64 w__2), .d (.int .u64 w__3), .d (.int .u64 w__4), .d (.int .u64 w__5)])], 1⟩ [(!w__0) = true, true = true] (by kernel_rfl) ⟨b20_5, rfl, trivial⟩ ?_
    have h := Option.some.inj h
    subst h
    exact At.fin hm ht ⟨[], [], [], [4], [0]⟩ [] (by kernel_rfl) trivial
  · rcases iteS h with ⟨b20_e0, h⟩ | ⟨b20_e0, h⟩
    · refine At.step hm ht ⟨[(5, .b false)], [true], [], [], [0]⟩ 2 ⟨[], [], [(0, [.d (.bool w__0), .d (.int .u64 w__1), .d (.int .u64 w__2), .d (.int .u64 w__3), .d (.int .u64 w__4), .d (.int .u64 w__5)])], 1⟩ [(!w__0) = false, (decide ((n_ : Int) > w__1)) = true] (by kernel_rfl) ⟨b20_5, b20_e0, trivial⟩ ?_
      have h := Option.some.inj h
      subst h
      exact At.fin hm ht ⟨[], [], [], [4], [0]⟩ [] (by kernel_rfl) trivial
    · refine At.step hm ht ⟨[(5, .b false)], [false], [], [0, 1], [0]⟩ 3 ⟨[(0, .one (.c (.ptr 0 0))), (1, .one (.c (.d (.int .u64 n_))))], [], [(0, [.d (.bool w__0), .d (.int .u64 w__1), .d (.int .u64 w__2), .d (.int .u64 w__3), .d (.int .u64 w__4), .d (.int .u64 w__5)])], 1⟩ [(!w__0) = false, (decide ((n_ : Int) > w__1)) = false] (by kernel_rfl) ⟨b20_5, b20_e0, trivial⟩ ?_
      rcases iteS h with ⟨b23_e0, h⟩ | ⟨b23_e0, h⟩
      · refine At.step hm ht ⟨[], [true], [], [], [0]⟩ 4 ⟨[], [], [(0, [.d (.bool w__0), .d (.int .u64 w__1), .d (.int .u64 w__2), .d (.int .u64 w__3), .d (.int .u64 w__4), .d (.int .u64 w__5)])], 1⟩ [(decide (((IntKind.wrap .u64 (w__1 - n_)) : Int) ≥ 256)) = true] (by kernel_rfl) ⟨b23_e0, trivial⟩ ?_
        have h := Option.some.inj h
        subst h
        exact At.fin hm ht ⟨[], [], [], [4], [0]⟩ [] (by kernel_rfl) trivial
      · refine At.step hm ht ⟨[], [false], [], [0, 1], [0]⟩ 5 ⟨[(0, .one (.c (.ptr 0 0))), (1, .one (.c (.d (.int .u64 n_))))], [], [(0, [.d (.bool w__0), .d (.int .u64 w__1), .d (.int .u64 w__2), .d (.int .u64 w__3), .d (.int .u64 w__4), .d (.int .u64 w__5)])], 1⟩ [(decide (((IntKind.wrap .u64 (w__1 - n_)) : Int) ≥ 256)) = false] (by kernel_rfl) ⟨b23_e0, trivial⟩ ?_
        obtain ⟨r25_0, cr25_0, h⟩ := bindS h
        refine At.step hm ht ⟨[(1, .call [] [] (f72_replay_at_out r25_0))], [], [], [0, 5, 6], [0]⟩ 6 ⟨[(0, .one (.c (.ptr 0 0))), (5, .one (.c (.d (.int .i64 r25_0.1)))), (6, .one (.c (.d (.int .u64 r25_0.2))))], [], [(0, [.d (.bool w__0), .d (.int .u64 w__1), .d (.int .u64 w__2), .d (.int .u64 w__3), .d (.int .u64 w__4), .d (.int .u64 w__5)])], 1⟩ [FnOK Go.Proofs.Try.prog 72 (f72_replay_at_in n_) (f72_replay_at_out r25_0)] (by kernel_rfl) ⟨(f72_replay_at_ok n_ r25_0 cr25_0), trivial⟩ ?_
        obtain ⟨g29_0, h⟩ := ifS h
        have h := Option.some.inj h
        subst h
        exact At.fin hm ht ⟨[(4, .pix 2 4 r25_0.1.toNat)], [], [], [4], [0]⟩ [((0 : Int) ≤ r25_0.1 ∧ r25_0.1 < ((4 : Nat) : Int)) ∧ 2 + r25_0.1.toNat * 1 = 2 + r25_0.1.toNat ∧ r25_0.1.toNat < 4] (by kernel_rfl) ⟨(⟨g29_0, by rw [Nat.mul_one], by have := g29_0; omega⟩), trivial⟩
/-! (*brougham/replay.Window).move -/
def f71_replay_Window_move_in (n_ : Int) (w__0 : Bool) (w__1 : Int) (w__2 : Int) (w__3 : Int) (w__4 : Int) (w__5 : Int) : Inn := ⟨[.c (.ptr 0 0), .c (.d (.int .u64 n_))], [], [(0, [.d (.bool w__0), .d (.int .u64 w__1), .d (.int .u64 w__2), .d (.int .u64 w__3), .d (.int .u64 w__4), .d (.int .u64 w__5)])], 1⟩
def f71_replay_Window_move_out (r : Bool × Int × Int × Int × Int × Int) : Out := ⟨.tup [], [], [(0, [.d (.bool r.1), .d (.int .u64 r.2.1), .d (.int .u64 r.2.2.1), .d (.int .u64 r.2.2.2.1), .d (.int .u64 r.2.2.2.2.1), .d (.int .u64 r.2.2.2.2.2)])], 1⟩
def f71_replay_Window_move_L2 : Nat → Int → Bool → Int → Int → Int → Int → Int → Option (Bool × Int × Int × Int × Int × Int)
  | 0, _, _, _, _, _, _, _ => none
  | n + 1, n_, w__0, w__1, w__2, w__3, w__4, w__5 =>
    if (decide ((w__1 : Int) < n_)) = true then
      (f72_replay_at (IntKind.wrap .u64 (w__1 + 1))).bind fun r38_0 =>
      if (0 : Int) ≤ r38_0.1 ∧ r38_0.1 < ((4 : Nat) : Int) then
      if (0 : Int) ≤ r38_0.1 ∧ r38_0.1 < ((4 : Nat) : Int) then
      f71_replay_Window_move_L2 n n_ w__0 (IntKind.wrap .u64 (w__1 + 1)) (if 0 = r38_0.1.toNat then (bits .andNot .u64 (([w__2, w__3, w__4, w__5] : List Int).getD r38_0.1.toNat 0) r38_0.2) else w__2) (if 1 = r38_0.1.toNat then (bits .andNot .u64 (([w__2, w__3, w__4, w__5] : List Int).getD r38_0.1.toNat 0) r38_0.2) else w__3) (if 2 = r38_0.1.toNat then (bits .andNot .u64 (([w__2, w__3, w__4, w__5] : List Int).getD r38_0.1.toNat 0) r38_0.2) else w__4) (if 3 = r38_0.1.toNat then (bits .andNot .u64 (([w__2, w__3, w__4, w__5] : List Int).getD r38_0.1.toNat 0) r38_0.2) else w__5)
      else none
      else none
    else
      some ((w__0, w__1, w__2, w__3, w__4, w__5))
def f71_replay_Window_move_L2_k (e : Bool × Int × Int × Int × Int × Int) (o : Out) : Prop := o = f71_replay_Window_move_out e
theorem f71_replay_Window_move_L2_ok (n : Nat) : ∀ (n_ : Int) (w__0 : Bool) (w__1 : Int) (w__2 : Int) (w__3 : Int) (w__4 : Int) (w__5 : Int) (w : Bool × Int × Int × Int × Int × Int) (h : f71_replay_Window_move_L2 n n_ w__0 w__1 w__2 w__3 w__4 w__5 = some w) (o : Out) (hk : f71_replay_Window_move_L2_k w o), At Go.Proofs.Try.prog Go.Proofs.Try.f71 1 2 ⟨[(0, .one (.c (.ptr 0 0))), (1, .one (.c (.d (.int .u64 n_))))], [], [(0, [.d (.bool w__0), .d (.int .u64 w__1), .d (.int .u64 w__2), .d (.int .u64 w__3), .d (.int .u64 w__4), .d (.int .u64 w__5)])], 1⟩ o := by
  induction n with
  | zero => intro n_ w__0 w__1 w__2 w__3 w__4 w__5 w h; rw [f71_replay_Window_move_L2] at h; cases h
  | succ n ih =>
    intro n_ w__0 w__1 w__2 w__3 w__4 w__5 w h o hk
    rw [f71_replay_Window_move_L2] at h
    rcases iteS h with ⟨b36_e0, h⟩ | ⟨b36_e0, h⟩
    · refine At.step hm ht ⟨[], [true], [], [0, 1], [0]⟩ 3 ⟨[(0, .one (.c (.ptr 0 0))), (1, .one (.c (.d (.int .u64 n_))))], [], [(0, [.d (.bool w__0), .d (.int .u64 w__1), .d (.int .u64 w__2), .d (.int .u64 w__3), .d (.int .u64 w__4), .d (.int .u64 w__5)])], 1⟩ [(decide ((w__1 : Int) < n_)) = true] (by kernel_rfl) ⟨b36_e0, trivial⟩ ?_
      refine At.step hm ht ⟨[], [], [], [0, 1], [0]⟩ 4 ⟨[(0, .one (.c (.ptr 0 0))), (1, .one (.c (.d (.int .u64 n_))))], [], [(0, [.d (.bool w__0), .d (.int .u64 (IntKind.wrap .u64 (w__1 + 1))), .d (.int .u64 w__2), .d (.int .u64 w__3), .d (.int .u64 w__4), .d (.int .u64 w__5)])], 1⟩ [1 + 1 ≤ 6] (by kernel_rfl) ⟨(by decide), trivial⟩ ?_
      obtain ⟨r38_0, cr38_0, h⟩ := bindS h
      refine At.step hm ht ⟨[(4, .call [] [] (f72_replay_at_out r38_0))], [], [], [0, 1, 4, 5], [0]⟩ 5 ⟨[(0, .one (.c (.ptr 0 0))), (1, .one (.c (.d (.int .u64 n_)))), (4, .one (.c (.d (.int .i64 r38_0.1)))), (5, .one (.c (.d (.int .u64 r38_0.2))))], [], [(0, [.d (.bool w__0), .d (.int .u64 (IntKind.wrap .u64 (w__1 + 1))), .d (.int .u64 w__2), .d (.int .u64 w__3), .d (.int .u64 w__4), .d (.int .u64 w__5)])], 1⟩ [FnOK Go.Proofs.Try.prog 72 (f72_replay_at_in (IntKind.wrap .u64 (w__1 + 1))) (f72_replay_at_out r38_0)] (by kernel_rfl) ⟨(f72_replay_at_ok (IntKind.wrap .u64 (w__1 + 1)) r38_0 cr38_0), trivial⟩ ?_
      obtain ⟨g39_0, h⟩ := ifS h
      obtain ⟨g39_1, h⟩ := ifS h
      refine At.step hm ht ⟨[(4, .pix 2 4 r38_0.1.toNat), (10, .pix 2 4 r38_0.1.toNat)], [], [], [0, 1], [0]⟩ 2 ⟨[(0, .one (.c (.ptr 0 0))), (1, .one (.c (.d (.int .u64 n_))))], [], [(0, [.d (.bool w__0), .d (.int .u64 (IntKind.wrap .u64 (w__1 + 1))), .d (.int .u64 (if 0 = r38_0.1.toNat then (bits .andNot .u64 (([w__2, w__3, w__4, w__5] : List Int).getD r38_0.1.toNat 0) r38_0.2) else w__2)), .d (.int .u64 (if 1 = r38_0.1.toNat then (bits .andNot .u64 (([w__2, w__3, w__4, w__5] : List Int).getD r38_0.1.toNat 0) r38_0.2) else w__3)), .d (.int .u64 (if 2 = r38_0.1.toNat then (bits .andNot .u64 (([w__2, w__3, w__4, w__5] : List Int).getD r38_0.1.toNat 0) r38_0.2) else w__4)), .d (.int .u64 (if 3 = r38_0.1.toNat then (bits .andNot .u64 (([w__2, w__3, w__4, w__5] : List Int).getD r38_0.1.toNat 0) r38_0.2) else w__5))])], 1⟩ [((0 : Int) ≤ r38_0.1 ∧ r38_0.1 < ((4 : Nat) : Int)) ∧ 2 + r38_0.1.toNat * 1 = 2 + r38_0.1.toNat ∧ r38_0.1.toNat < 4, ((0 : Int) ≤ r38_0.1 ∧ r38_0.1 < ((4 : Nat) : Int)) ∧ 2 + r38_0.1.toNat * 1 = 2 + r38_0.1.toNat ∧ r38_0.1.toNat < 4] (by kernel_rfl) ⟨(⟨g39_0, by rw [Nat.mul_one], by have := g39_0; omega⟩), (⟨g39_1, by rw [Nat.mul_one], by have := g39_1; omega⟩), trivial⟩ ?_
      exact ih n_ w__0 (IntKind.wrap .u64 (w__1 + 1)) (if 0 = r38_0.1.toNat then (bits .andNot .u64 (([w__2, w__3, w__4, w__5] : List Int).getD r38_0.1.toNat 0) r38_0.2) else w__2) (if 1 = r38_0.1.toNat then (bits .andNot .u64 (([w__2, w__3, w__4, w__5] : List Int).getD r38_0.1.toNat 0) r38_0.2) else w__3) (if 2 = r38_0.1.toNat then (bits .andNot .u64 (([w__2, w__3, w__4, w__5] : List Int).getD r38_0.1.toNat 0) r38_0.2) else w__4) (if 3 = r38_0.1.toNat then (bits .andNot .u64 (([w__2, w__3, w__4, w__5] : List Int).getD r38_0.1.toNat 0) r38_0.2) else w__5) w h o hk
    · have h := Option.some.inj h
      subst h
      have hk : o = f71_replay_Window_move_out (w__0, w__1, w__2, w__3, w__4, w__5) := hk
      subst hk
      exact At.fin hm ht ⟨[], [false], [], [], [0]⟩ [(decide ((w__1 : Int) < n_)) = false] (by kernel_rfl) ⟨b36_e0, trivial⟩
def f71_replay_Window_move (n : Nat) (n_ : Int) (w__0 : Bool) (w__1 : Int) (w__2 : Int) (w__3 : Int) (w__4 : Int) (w__5 : Int) : Option (Bool × Int × Int × Int × Int × Int) :=
  if (!w__0) = true then
    some (true, n_, 0, 0, 0, 0)
  else
    if (decide (((IntKind.wrap .u64 (n_ - w__1)) : Int) ≥ 256)) = true then
      some (true, n_, 0, 0, 0, 0)
    else
      (f71_replay_Window_move_L2 n n_ w__0 w__1 w__2 w__3 w__4 w__5).bind fun w40 =>
      some (w40.1, w40.2.1, w40.2.2.1, w40.2.2.2.1, w40.2.2.2.2.1, w40.2.2.2.2.2)
theorem f71_replay_Window_move_ok (n : Nat) (n_ : Int) (w__0 : Bool) (w__1 : Int) (w__2 : Int) (w__3 : Int) (w__4 : Int) (w__5 : Int) (r : Bool × Int × Int × Int × Int × Int) (h : f71_replay_Window_move n n_ w__0 w__1 w__2 w__3 w__4 w__5 = some r) : FnOK Go.Proofs.Try.prog 71 (f71_replay_Window_move_in n_ w__0 w__1 w__2 w__3 w__4 w__5) (f71_replay_Window_move_out r) := by
  unfold f71_replay_Window_move at h
  refine At.fn (r := 0) Go.Proofs.Try.func71 rfl (by kernel_rfl) rfl rfl (by kernel_rfl) ?_
  show At Go.Proofs.Try.prog Go.Proofs.Try.f71 1 0 ⟨[(0, .one (.c (.ptr 0 0))), (1, .one (.c (.d (.int .u64 n_))))], [], [(0, [.d (.bool w__0), .d (.int .u64 w__1), .d (.int .u64 w__2), .d (.int .u64 w__3), .d (.int .u64 w__4), .d (.int .u64 w__5)])], 1⟩ _
  rcases iteS h with ⟨b33_5, h⟩ | ⟨b33_5, h⟩
  · refine At.step hm ht ⟨[(5, .b true)], [true], [], [0, 1], [0]⟩ 1 ⟨[(0, .one (.c (.ptr 0 0))), (1, .one (.c (.d (.int .u64 n_))))], [], [(0, [.d (.bool w__0), .d (.int .u64 w__1), .d (.int .u64 w__2), .d (.int .u64 w__3), .d (.int .u64 w__4), .d (.int .u64 w__5)])], 1⟩ [(!w__0) = true, true = true] (by kernel_rfl) ⟨b33_5, rfl, trivial⟩ ?_
    have h := Option.some.inj h
    subst h
    exact At.fin hm ht ⟨[], [], [], [], [0]⟩ [0 + 1 ≤ 6, 1 + 1 ≤ 6, 2 + 4 ≤ 6] (by kernel_rfl) ⟨(by decide), (by decide), (by decide), trivial⟩
  · rcases iteS h with ⟨b33_e0, h⟩ | ⟨b33_e0, h⟩
    · refine At.step hm ht ⟨[(5, .b false)], [true], [], [0, 1], [0]⟩ 1 ⟨[(0, .one (.c (.ptr 0 0))), (1, .one (.c (.d (.int .u64 n_))))], [], [(0, [.d (.bool w__0), .d (.int .u64 w__1), .d (.int .u64 w__2), .d (.int .u64 w__3), .d (.int .u64 w__4), .d (.int .u64 w__5)])], 1⟩ [(!w__0) = false, (decide (((IntKind.wrap .u64 (n_ - w__1)) : Int) ≥ 256)) = true] (by kernel_rfl) ⟨b33_5, b33_e0, trivial⟩ ?_
      have h := Option.some.inj h
      subst h
      exact At.fin hm ht ⟨[], [], [], [], [0]⟩ [0 + 1 ≤ 6, 1 + 1 ≤ 6, 2 + 4 ≤ 6] (by kernel_rfl) ⟨(by decide), (by decide), (by decide), trivial⟩
    · refine At.step hm ht ⟨[(5, .b false)], [false], [], [0, 1], [0]⟩ 2 ⟨[(0, .one (.c (.ptr 0 0))), (1, .one (.c (.d (.int .u64 n_))))], [], [(0, [.d (.bool w__0), .d (.int .u64 w__1), .d (.int .u64 w__2), .d (.int .u64 w__3), .d (.int .u64 w__4), .d (.int .u64 w__5)])], 1⟩ [(!w__0) = false, (decide (((IntKind.wrap .u64 (n_ - w__1)) : Int) ≥ 256)) = false] (by kernel_rfl) ⟨b33_5, b33_e0, trivial⟩ ?_
      obtain ⟨w40, cw40, h⟩ := bindS h
      refine f71_replay_Window_move_L2_ok n n_ w__0 w__1 w__2 w__3 w__4 w__5 w40 cw40 _ ?_
      have h := Option.some.inj h
      subst h
      rfl
/-! (*brougham/replay.Window).Take -/
def f26_replay_Window_Take_in (n_ : Int) (w__0 : Bool) (w__1 : Int) (w__2 : Int) (w__3 : Int) (w__4 : Int) (w__5 : Int) : Inn := ⟨[.c (.ptr 0 0), .c (.d (.int .u64 n_))], [], [(0, [.d (.bool w__0), .d (.int .u64 w__1), .d (.int .u64 w__2), .d (.int .u64 w__3), .d (.int .u64 w__4), .d (.int .u64 w__5)])], 1⟩
def f26_replay_Window_Take_out (r : Bool × Bool × Int × Int × Int × Int × Int) : Out := ⟨.one (.c (.d (.bool r.1))), [], [(0, [.d (.bool r.2.1), .d (.int .u64 r.2.2.1), .d (.int .u64 r.2.2.2.1), .d (.int .u64 r.2.2.2.2.1), .d (.int .u64 r.2.2.2.2.2.1), .d (.int .u64 r.2.2.2.2.2.2)])], 1⟩
def f26_replay_Window_Take (n : Nat) (n_ : Int) (w__0 : Bool) (w__1 : Int) (w__2 : Int) (w__3 : Int) (w__4 : Int) (w__5 : Int) : Option (Bool × Bool × Int × Int × Int × Int × Int) :=
  (f34_replay_Window_Fresh n_ w__0 w__1 w__2 w__3 w__4 w__5).bind fun r18_0 =>
  if (!r18_0.1) = true then
    some (false, r18_0.2.1, r18_0.2.2.1, r18_0.2.2.2.1, r18_0.2.2.2.2.1, r18_0.2.2.2.2.2.1, r18_0.2.2.2.2.2.2)
  else
    if (!r18_0.2.1) = true then
      (f71_replay_Window_move n n_ r18_0.2.1 r18_0.2.2.1 r18_0.2.2.2.1 r18_0.2.2.2.2.1 r18_0.2.2.2.2.2.1 r18_0.2.2.2.2.2.2).bind fun r32_0 =>
      (f72_replay_at n_).bind fun r42_0 =>
      if (0 : Int) ≤ r42_0.1 ∧ r42_0.1 < ((4 : Nat) : Int) then
      if (0 : Int) ≤ r42_0.1 ∧ r42_0.1 < ((4 : Nat) : Int) then
      some (true, r32_0.1, r32_0.2.1, (if 0 = r42_0.1.toNat then (bits .or .u64 (([r32_0.2.2.1, r32_0.2.2.2.1, r32_0.2.2.2.2.1, r32_0.2.2.2.2.2] : List Int).getD r42_0.1.toNat 0) r42_0.2) else r32_0.2.2.1), (if 1 = r42_0.1.toNat then (bits .or .u64 (([r32_0.2.2.1, r32_0.2.2.2.1, r32_0.2.2.2.2.1, r32_0.2.2.2.2.2] : List Int).getD r42_0.1.toNat 0) r42_0.2) else r32_0.2.2.2.1), (if 2 = r42_0.1.toNat then (bits .or .u64 (([r32_0.2.2.1, r32_0.2.2.2.1, r32_0.2.2.2.2.1, r32_0.2.2.2.2.2] : List Int).getD r42_0.1.toNat 0) r42_0.2) else r32_0.2.2.2.2.1), (if 3 = r42_0.1.toNat then (bits .or .u64 (([r32_0.2.2.1, r32_0.2.2.2.1, r32_0.2.2.2.2.1, r32_0.2.2.2.2.2] : List Int).getD r42_0.1.toNat 0) r42_0.2) else r32_0.2.2.2.2.2))
      else none
      else none
    else
      if (decide ((n_ : Int) > r18_0.2.2.1)) = true then
        (f71_replay_Window_move n n_ r18_0.2.1 r18_0.2.2.1 r18_0.2.2.2.1 r18_0.2.2.2.2.1 r18_0.2.2.2.2.2.1 r18_0.2.2.2.2.2.2).bind fun r45_0 =>
        (f72_replay_at n_).bind fun r46_0 =>
        if (0 : Int) ≤ r46_0.1 ∧ r46_0.1 < ((4 : Nat) : Int) then
        if (0 : Int) ≤ r46_0.1 ∧ r46_0.1 < ((4 : Nat) : Int) then
        some (true, r45_0.1, r45_0.2.1, (if 0 = r46_0.1.toNat then (bits .or .u64 (([r45_0.2.2.1, r45_0.2.2.2.1, r45_0.2.2.2.2.1, r45_0.2.2.2.2.2] : List Int).getD r46_0.1.toNat 0) r46_0.2) else r45_0.2.2.1), (if 1 = r46_0.1.toNat then (bits .or .u64 (([r45_0.2.2.1, r45_0.2.2.2.1, r45_0.2.2.2.2.1, r45_0.2.2.2.2.2] : List Int).getD r46_0.1.toNat 0) r46_0.2) else r45_0.2.2.2.1), (if 2 = r46_0.1.toNat then (bits .or .u64 (([r45_0.2.2.1, r45_0.2.2.2.1, r45_0.2.2.2.2.1, r45_0.2.2.2.2.2] : List Int).getD r46_0.1.toNat 0) r46_0.2) else r45_0.2.2.2.2.1), (if 3 = r46_0.1.toNat then (bits .or .u64 (([r45_0.2.2.1, r45_0.2.2.2.1, r45_0.2.2.2.2.1, r45_0.2.2.2.2.2] : List Int).getD r46_0.1.toNat 0) r46_0.2) else r45_0.2.2.2.2.2))
        else none
        else none
      else
        (f72_replay_at n_).bind fun r49_0 =>
        if (0 : Int) ≤ r49_0.1 ∧ r49_0.1 < ((4 : Nat) : Int) then
        if (0 : Int) ≤ r49_0.1 ∧ r49_0.1 < ((4 : Nat) : Int) then
        some (true, r18_0.2.1, r18_0.2.2.1, (if 0 = r49_0.1.toNat then (bits .or .u64 (([r18_0.2.2.2.1, r18_0.2.2.2.2.1, r18_0.2.2.2.2.2.1, r18_0.2.2.2.2.2.2] : List Int).getD r49_0.1.toNat 0) r49_0.2) else r18_0.2.2.2.1), (if 1 = r49_0.1.toNat then (bits .or .u64 (([r18_0.2.2.2.1, r18_0.2.2.2.2.1, r18_0.2.2.2.2.2.1, r18_0.2.2.2.2.2.2] : List Int).getD r49_0.1.toNat 0) r49_0.2) else r18_0.2.2.2.2.1), (if 2 = r49_0.1.toNat then (bits .or .u64 (([r18_0.2.2.2.1, r18_0.2.2.2.2.1, r18_0.2.2.2.2.2.1, r18_0.2.2.2.2.2.2] : List Int).getD r49_0.1.toNat 0) r49_0.2) else r18_0.2.2.2.2.2.1), (if 3 = r49_0.1.toNat then (bits .or .u64 (([r18_0.2.2.2.1, r18_0.2.2.2.2.1, r18_0.2.2.2.2.2.1, r18_0.2.2.2.2.2.2] : List Int).getD r49_0.1.toNat 0) r49_0.2) else r18_0.2.2.2.2.2.2))
        else none
        else none
theorem f26_replay_Window_Take_ok (n : Nat) (n_ : Int) (w__0 : Bool) (w__1 : Int) (w__2 : Int) (w__3 : Int) (w__4 : Int) (w__5 : Int) (r : Bool × Bool × Int × Int × Int × Int × Int) (h : f26_replay_Window_Take n n_ w__0 w__1 w__2 w__3 w__4 w__5 = some r) : FnOK Go.Proofs.Try.prog 26 (f26_replay_Window_Take_in n_ w__0 w__1 w__2 w__3 w__4 w__5) (f26_replay_Window_Take_out r) := by
  unfold f26_replay_Window_Take at h
  refine At.fn (r := 0) Go.Proofs.Try.func26 rfl (by kernel_rfl) rfl rfl (by kernel_rfl) ?_
  show At Go.Proofs.Try.prog Go.Proofs.Try.f26 1 0 ⟨[(0, .one (.c (.ptr 0 0))), (1, .one (.c (.d (.int .u64 n_))))], [], [(0, [.d (.bool w__0), .d (.int .u64 w__1), .d (.int .u64 w__2), .d (.int .u64 w__3), .d (.int .u64 w__4), .d (.int .u64 w__5)])], 1⟩ _
  refine At.step hm ht ⟨[], [], [], [0, 1], [0]⟩ 1 ⟨[(0, .one (.c (.ptr 0 0))), (1, .one (.c (.d (.int .u64 n_))))], [], [(0, [.d (.bool w__0), .d (.int .u64 w__1), .d (.int .u64 w__2), .d (.int .u64 w__3), .d (.int .u64 w__4), .d (.int .u64 w__5)])], 1⟩ [] (by kernel_rfl) trivial ?_
  obtain ⟨r18_0, cr18_0, h⟩ := bindS h
  rcases iteS h with ⟨b18_e0, h⟩ | ⟨b18_e0, h⟩
  · refine At.step hm ht ⟨[(2, .call [0] [] (f34_replay_Window_Fresh_out r18_0))], [true], [], [], [0]⟩ 2 ⟨[], [], [(0, [.d (.bool r18_0.2.1), .d (.int .u64 r18_0.2.2.1), .d (.int .u64 r18_0.2.2.2.1), .d (.int .u64 r18_0.2.2.2.2.1), .d (.int .u64 r18_0.2.2.2.2.2.1), .d (.int .u64 r18_0.2.2.2.2.2.2)])], 1⟩ [FnOK Go.Proofs.Try.prog 34 (f34_replay_Window_Fresh_in n_ w__0 w__1 w__2 w__3 w__4 w__5) (f34_replay_Window_Fresh_out r18_0), (!r18_0.1) = true] (by kernel_rfl) ⟨(f34_replay_Window_Fresh_ok n_ w__0 w__1 w__2 w__3 w__4 w__5 r18_0 cr18_0), b18_e0, trivial⟩ ?_
    have h := Option.some.inj h
    subst h
    exact At.fin hm ht ⟨[], [], [], [4], [0]⟩ [] (by kernel_rfl) trivial
  · refine At.step hm ht ⟨[(2, .call [0] [] (f34_replay_Window_Fresh_out r18_0))], [false], [], [0, 1], [0]⟩ 3 ⟨[(0, .one (.c (.ptr 0 0))), (1, .one (.c (.d (.int .u64 n_))))], [], [(0, [.d (.bool r18_0.2.1), .d (.int .u64 r18_0.2.2.1), .d (.int .u64 r18_0.2.2.2.1), .d (.int .u64 r18_0.2.2.2.2.1), .d (.int .u64 r18_0.2.2.2.2.2.1), .d (.int .u64 r18_0.2.2.2.2.2.2)])], 1⟩ [FnOK Go.Proofs.Try.prog 34 (f34_replay_Window_Fresh_in n_ w__0 w__1 w__2 w__3 w__4 w__5) (f34_replay_Window_Fresh_out r18_0), (!r18_0.1) = false] (by kernel_rfl) ⟨(f34_replay_Window_Fresh_ok n_ w__0 w__1 w__2 w__3 w__4 w__5 r18_0 cr18_0), b18_e0, trivial⟩ ?_
    rcases iteS h with ⟨b31_5, h⟩ | ⟨b31_5, h⟩
    · refine At.step hm ht ⟨[(5, .b true)], [true], [], [0, 1], [0]⟩ 4 ⟨[(0, .one (.c (.ptr 0 0))), (1, .one (.c (.d (.int .u64 n_))))], [], [(0, [.d (.bool r18_0.2.1), .d (.int .u64 r18_0.2.2.1), .d (.int .u64 r18_0.2.2.2.1), .d (.int .u64 r18_0.2.2.2.2.1), .d (.int .u64 r18_0.2.2.2.2.2.1), .d (.int .u64 r18_0.2.2.2.2.2.2)])], 1⟩ [(!r18_0.2.1) = true, true = true] (by kernel_rfl) ⟨b31_5, rfl, trivial⟩ ?_
      obtain ⟨r32_0, cr32_0, h⟩ := bindS h
      refine At.step hm ht ⟨[(2, .call [0] [] (f71_replay_Window_move_out r32_0))], [], [], [0, 1], [0]⟩ 5 ⟨[(0, .one (.c (.ptr 0 0))), (1, .one (.c (.d (.int .u64 n_))))], [], [(0, [.d (.bool r32_0.1), .d (.int .u64 r32_0.2.1), .d (.int .u64 r32_0.2.2.1), .d (.int .u64 r32_0.2.2.2.1), .d (.int .u64 r32_0.2.2.2.2.1), .d (.int .u64 r32_0.2.2.2.2.2)])], 1⟩ [FnOK Go.Proofs.Try.prog 71 (f71_replay_Window_move_in n_ r18_0.2.1 r18_0.2.2.1 r18_0.2.2.2.1 r18_0.2.2.2.2.1 r18_0.2.2.2.2.2.1 r18_0.2.2.2.2.2.2) (f71_replay_Window_move_out r32_0)] (by kernel_rfl) ⟨(f71_replay_Window_move_ok n n_ r18_0.2.1 r18_0.2.2.1 r18_0.2.2.2.1 r18_0.2.2.2.2.1 r18_0.2.2.2.2.2.1 r18_0.2.2.2.2.2.2 r32_0 cr32_0), trivial⟩ ?_
      obtain ⟨r42_0, cr42_0, h⟩ := bindS h
      refine At.step hm ht ⟨[(1, .call [] [] (f72_replay_at_out r42_0))], [], [], [0, 5, 6], [0]⟩ 6 ⟨[(0, .one (.c (.ptr 0 0))), (5, .one (.c (.d (.int .i64 r42_0.1)))), (6, .one (.c (.d (.int .u64 r42_0.2))))], [], [(0, [.d (.bool r32_0.1), .d (.int .u64 r32_0.2.1), .d (.int .u64 r32_0.2.2.1), .d (.int .u64 r32_0.2.2.2.1), .d (.int .u64 r32_0.2.2.2.2.1), .d (.int .u64 r32_0.2.2.2.2.2)])], 1⟩ [FnOK Go.Proofs.Try.prog 72 (f72_replay_at_in n_) (f72_replay_at_out r42_0)] (by kernel_rfl) ⟨(f72_replay_at_ok n_ r42_0 cr42_0), trivial⟩ ?_
      obtain ⟨g43_0, h⟩ := ifS h
      obtain ⟨g43_1, h⟩ := ifS h
      refine At.step hm ht ⟨[(4, .pix 2 4 r42_0.1.toNat), (10, .pix 2 4 r42_0.1.toNat)], [], [], [], [0]⟩ 7 ⟨[], [], [(0, [.d (.bool r32_0.1), .d (.int .u64 r32_0.2.1), .d (.int .u64 (if 0 = r42_0.1.toNat then (bits .or .u64 (([r32_0.2.2.1, r32_0.2.2.2.1, r32_0.2.2.2.2.1, r32_0.2.2.2.2.2] : List Int).getD r42_0.1.toNat 0) r42_0.2) else r32_0.2.2.1)), .d (.int .u64 (if 1 = r42_0.1.toNat then (bits .or .u64 (([r32_0.2.2.1, r32_0.2.2.2.1, r32_0.2.2.2.2.1, r32_0.2.2.2.2.2] : List Int).getD r42_0.1.toNat 0) r42_0.2) else r32_0.2.2.2.1)), .d (.int .u64 (if 2 = r42_0.1.toNat then (bits .or .u64 (([r32_0.2.2.1, r32_0.2.2.2.1, r32_0.2.2.2.2.1, r32_0.2.2.2.2.2] : List Int).getD r42_0.1.toNat 0) r42_0.2) else r32_0.2.2.2.2.1)), .d (.int .u64 (if 3 = r42_0.1.toNat then (bits .or .u64 (([r32_0.2.2.1, r32_0.2.2.2.1, r32_0.2.2.2.2.1, r32_0.2.2.2.2.2] : List Int).getD r42_0.1.toNat 0) r42_0.2) else r32_0.2.2.2.2.2))])], 1⟩ [((0 : Int) ≤ r42_0.1 ∧ r42_0.1 < ((4 : Nat) : Int)) ∧ 2 + r42_0.1.toNat * 1 = 2 + r42_0.1.toNat ∧ r42_0.1.toNat < 4, ((0 : Int) ≤ r42_0.1 ∧ r42_0.1 < ((4 : Nat) : Int)) ∧ 2 + r42_0.1.toNat * 1 = 2 + r42_0.1.toNat ∧ r42_0.1.toNat < 4] (by kernel_rfl) ⟨(⟨g43_0, by rw [Nat.mul_one], by have := g43_0; omega⟩), (⟨g43_1, by rw [Nat.mul_one], by have := g43_1; omega⟩), trivial⟩ ?_
      have h := Option.some.inj h
      subst h
      exact At.fin hm ht ⟨[], [], [], [4], [0]⟩ [] (by kernel_rfl) trivial
    · rcases iteS h with ⟨b31_e0, h⟩ | ⟨b31_e0, h⟩
      · refine At.step hm ht ⟨[(5, .b false)], [true], [], [0, 1], [0]⟩ 4 ⟨[(0, .one (.c (.ptr 0 0))), (1, .one (.c (.d (.int .u64 n_))))], [], [(0, [.d (.bool r18_0.2.1), .d (.int .u64 r18_0.2.2.1), .d (.int .u64 r18_0.2.2.2.1), .d (.int .u64 r18_0.2.2.2.2.1), .d (.int .u64 r18_0.2.2.2.2.2.1), .d (.int .u64 r18_0.2.2.2.2.2.2)])], 1⟩ [(!r18_0.2.1) = false, (decide ((n_ : Int) > r18_0.2.2.1)) = true] (by kernel_rfl) ⟨b31_5, b31_e0, trivial⟩ ?_
        obtain ⟨r45_0, cr45_0, h⟩ := bindS h
        refine At.step hm ht ⟨[(2, .call [0] [] (f71_replay_Window_move_out r45_0))], [], [], [0, 1], [0]⟩ 5 ⟨[(0, .one (.c (.ptr 0 0))), (1, .one (.c (.d (.int .u64 n_))))], [], [(0, [.d (.bool r45_0.1), .d (.int .u64 r45_0.2.1), .d (.int .u64 r45_0.2.2.1), .d (.int .u64 r45_0.2.2.2.1), .d (.int .u64 r45_0.2.2.2.2.1), .d (.int .u64 r45_0.2.2.2.2.2)])], 1⟩ [FnOK Go.Proofs.Try.prog 71 (f71_replay_Window_move_in n_ r18_0.2.1 r18_0.2.2.1 r18_0.2.2.2.1 r18_0.2.2.2.2.1 r18_0.2.2.2.2.2.1 r18_0.2.2.2.2.2.2) (f71_replay_Window_move_out r45_0)] (by kernel_rfl) ⟨(f71_replay_Window_move_ok n n_ r18_0.2.1 r18_0.2.2.1 r18_0.2.2.2.1 r18_0.2.2.2.2.1 r18_0.2.2.2.2.2.1 r18_0.2.2.2.2.2.2 r45_0 cr45_0), trivial⟩ ?_
        obtain ⟨r46_0, cr46_0, h⟩ := bindS h
        refine At.step hm ht ⟨[(1, .call [] [] (f72_replay_at_out r46_0))], [], [], [0, 5, 6], [0]⟩ 6 ⟨[(0, .one (.c (.ptr 0 0))), (5, .one (.c (.d (.int .i64 r46_0.1)))), (6, .one (.c (.d (.int .u64 r46_0.2))))], [], [(0, [.d (.bool r45_0.1), .d (.int .u64 r45_0.2.1), .d (.int .u64 r45_0.2.2.1), .d (.int .u64 r45_0.2.2.2.1), .d (.int .u64 r45_0.2.2.2.2.1), .d (.int .u64 r45_0.2.2.2.2.2)])], 1⟩ [FnOK Go.Proofs.Try.prog 72 (f72_replay_at_in n_) (f72_replay_at_out r46_0)] (by kernel_rfl) ⟨(f72_replay_at_ok n_ r46_0 cr46_0), trivial⟩ ?_
        obtain ⟨g47_0, h⟩ := ifS h
        obtain ⟨g47_1, h⟩ := ifS h
        refine At.step hm ht ⟨[(4, .pix 2 4 r46_0.1.toNat), (10, .pix 2 4 r46_0.1.toNat)], [], [], [], [0]⟩ 7 ⟨[], [], [(0, [.d (.bool r45_0.1), .d (.int .u64 r45_0.2.1), .d (.int .u64 (if 0 = r46_0.1.toNat then (bits .or .u64 (([r45_0.2.2.1, r45_0.2.2.2.1, r45_0.2.2.2.2.1, r45_0.2.2.2.2.2] : List Int).getD r46_0.1.toNat 0) r46_0.2) else r45_0.2.2.1)), .d (.int .u64 (if 1 = r46_0.1.toNat then (bits .or .u64 (([r45_0.2.2.1, r45_0.2.2.2.1, r45_0.2.2.2.2.1, r45_0.2.2.2.2.2] : List Int).getD r46_0.1.toNat 0) r46_0.2) else r45_0.2.2.2.1)), .d (.int .u64 (if 2 = r46_0.1.toNat then (bits .or .u64 (([r45_0.2.2.1, r45_0.2.2.2.1, r45_0.2.2.2.2.1, r45_0.2.2.2.2.2] : List Int).getD r46_0.1.toNat 0) r46_0.2) else r45_0.2.2.2.2.1)), .d (.int .u64 (if 3 = r46_0.1.toNat then (bits .or .u64 (([r45_0.2.2.1, r45_0.2.2.2.1, r45_0.2.2.2.2.1, r45_0.2.2.2.2.2] : List Int).getD r46_0.1.toNat 0) r46_0.2) else r45_0.2.2.2.2.2))])], 1⟩ [((0 : Int) ≤ r46_0.1 ∧ r46_0.1 < ((4 : Nat) : Int)) ∧ 2 + r46_0.1.toNat * 1 = 2 + r46_0.1.toNat ∧ r46_0.1.toNat < 4, ((0 : Int) ≤ r46_0.1 ∧ r46_0.1 < ((4 : Nat) : Int)) ∧ 2 + r46_0.1.toNat * 1 = 2 + r46_0.1.toNat ∧ r46_0.1.toNat < 4] (by kernel_rfl) ⟨(⟨g47_0, by rw [Nat.mul_one], by have := g47_0; omega⟩), (⟨g47_1, by rw [Nat.mul_one], by have := g47_1; omega⟩), trivial⟩ ?_
        have h := Option.some.inj h
        subst h
        exact At.fin hm ht ⟨[], [], [], [4], [0]⟩ [] (by kernel_rfl) trivial
      · refine At.step hm ht ⟨[(5, .b false)], [false], [], [0, 1], [0]⟩ 5 ⟨[(0, .one (.c (.ptr 0 0))), (1, .one (.c (.d (.int .u64 n_))))], [], [(0, [.d (.bool r18_0.2.1), .d (.int .u64 r18_0.2.2.1), .d (.int .u64 r18_0.2.2.2.1), .d (.int .u64 r18_0.2.2.2.2.1), .d (.int .u64 r18_0.2.2.2.2.2.1), .d (.int .u64 r18_0.2.2.2.2.2.2)])], 1⟩ [(!r18_0.2.1) = false, (decide ((n_ : Int) > r18_0.2.2.1)) = false] (by kernel_rfl) ⟨b31_5, b31_e0, trivial⟩ ?_
        obtain ⟨r49_0, cr49_0, h⟩ := bindS h
        refine At.step hm ht ⟨[(1, .call [] [] (f72_replay_at_out r49_0))], [], [], [0, 5, 6], [0]⟩ 6 ⟨[(0, .one (.c (.ptr 0 0))), (5, .one (.c (.d (.int .i64 r49_0.1)))), (6, .one (.c (.d (.int .u64 r49_0.2))))], [], [(0, [.d (.bool r18_0.2.1), .d (.int .u64 r18_0.2.2.1), .d (.int .u64 r18_0.2.2.2.1), .d (.int .u64 r18_0.2.2.2.2.1), .d (.int .u64 r18_0.2.2.2.2.2.1), .d (.int .u64 r18_0.2.2.2.2.2.2)])], 1⟩ [FnOK Go.Proofs.Try.prog 72 (f72_replay_at_in n_) (f72_replay_at_out r49_0)] (by kernel_rfl) ⟨(f72_replay_at_ok n_ r49_0 cr49_0), trivial⟩ ?_
        obtain ⟨g50_0, h⟩ := ifS h
        obtain ⟨g50_1, h⟩ := ifS h
        refine At.step hm ht ⟨[(4, .pix 2 4 r49_0.1.toNat), (10, .pix 2 4 r49_0.1.toNat)], [], [], [], [0]⟩ 7 ⟨[], [], [(0, [.d (.bool r18_0.2.1), .d (.int .u64 r18_0.2.2.1), .d (.int .u64 (if 0 = r49_0.1.toNat then (bits .or .u64 (([r18_0.2.2.2.1, r18_0.2.2.2.2.1, r18_0.2.2.2.2.2.1, r18_0.2.2.2.2.2.2] : List Int).getD r49_0.1.toNat 0) r49_0.2) else r18_0.2.2.2.1)), .d (.int .u64 (if 1 = r49_0.1.toNat then (bits .or .u64 (([r18_0.2.2.2.1, r18_0.2.2.2.2.1, r18_0.2.2.2.2.2.1, r18_0.2.2.2.2.2.2] : List Int).getD r49_0.1.toNat 0) r49_0.2) else r18_0.2.2.2.2.1)), .d (.int .u64 (if 2 = r49_0.1.toNat then (bits .or .u64 (([r18_0.2.2.2.1, r18_0.2.2.2.2.1, r18_0.2.2.2.2.2.1, r18_0.2.2.2.2.2.2] : List Int).getD r49_0.1.toNat 0) r49_0.2) else r18_0.2.2.2.2.2.1)), .d (.int .u64 (if 3 = r49_0.1.toNat then (bits .or .u64 (([r18_0.2.2.2.1, r18_0.2.2.2.2.1, r18_0.2.2.2.2.2.1, r18_0.2.2.2.2.2.2] : List Int).getD r49_0.1.toNat 0) r49_0.2) else r18_0.2.2.2.2.2.2))])], 1⟩ [((0 : Int) ≤ r49_0.1 ∧ r49_0.1 < ((4 : Nat) : Int)) ∧ 2 + r49_0.1.toNat * 1 = 2 + r49_0.1.toNat ∧ r49_0.1.toNat < 4, ((0 : Int) ≤ r49_0.1 ∧ r49_0.1 < ((4 : Nat) : Int)) ∧ 2 + r49_0.1.toNat * 1 = 2 + r49_0.1.toNat ∧ r49_0.1.toNat < 4] (by kernel_rfl) ⟨(⟨g50_0, by rw [Nat.mul_one], by have := g50_0; omega⟩), (⟨g50_1, by rw [Nat.mul_one], by have := g50_1; omega⟩), trivial⟩ ?_
        have h := Option.some.inj h
        subst h
        exact At.fin hm ht ⟨[], [], [], [4], [0]⟩ [] (by kernel_rfl) trivial
/-! math/bits.OnesCount64 -/
def f78_bits_OnesCount64_in (x : Int) : Inn := ⟨[.c (.d (.int .u64 x))], [], [], 0⟩
def f78_bits_OnesCount64_out (r : Int) : Out := ⟨.one (.c (.d (.int .i64 r))), [], [], 0⟩
def f78_bits_OnesCount64 (x : Int) : Option (Int) :=
  some (bits .and .i64 (IntKind.wrap .i64 (IntKind.wrap .u64 ((IntKind.wrap .u64 ((IntKind.wrap .u64 ((bits .and .u64 (IntKind.wrap .u64 ((Int.fdiv (IntKind.wrap .u64 ((bits .and .u64 (Int.fdiv (IntKind.wrap .u64 ((bits .and .u64 (Int.fdiv x (2 ^ 1)) 6148914691236517205) + (bits .and .u64 x 6148914691236517205))) (2 ^ 2)) 3689348814741910323) + (bits .and .u64 (IntKind.wrap .u64 ((bits .and .u64 (Int.fdiv x (2 ^ 1)) 6148914691236517205) + (bits .and .u64 x 6148914691236517205))) 3689348814741910323))) (2 ^ 4)) + (IntKind.wrap .u64 ((bits .and .u64 (Int.fdiv (IntKind.wrap .u64 ((bits .and .u64 (Int.fdiv x (2 ^ 1)) 6148914691236517205) + (bits .and .u64 x 6148914691236517205))) (2 ^ 2)) 3689348814741910323) + (bits .and .u64 (IntKind.wrap .u64 ((bits .and .u64 (Int.fdiv x (2 ^ 1)) 6148914691236517205) + (bits .and .u64 x 6148914691236517205))) 3689348814741910323))))) 1085102592571150095) + (Int.fdiv (bits .and .u64 (IntKind.wrap .u64 ((Int.fdiv (IntKind.wrap .u64 ((bits .and .u64 (Int.fdiv (IntKind.wrap .u64 ((bits .and .u64 (Int.fdiv x (2 ^ 1)) 6148914691236517205) + (bits .and .u64 x 6148914691236517205))) (2 ^ 2)) 3689348814741910323) + (bits .and .u64 (IntKind.wrap .u64 ((bits .and .u64 (Int.fdiv x (2 ^ 1)) 6148914691236517205) + (bits .and .u64 x 6148914691236517205))) 3689348814741910323))) (2 ^ 4)) + (IntKind.wrap .u64 ((bits .and .u64 (Int.fdiv (IntKind.wrap .u64 ((bits .and .u64 (Int.fdiv x (2 ^ 1)) 6148914691236517205) + (bits .and .u64 x 6148914691236517205))) (2 ^ 2)) 3689348814741910323) + (bits .and .u64 (IntKind.wrap .u64 ((bits .and .u64 (Int.fdiv x (2 ^ 1)) 6148914691236517205) + (bits .and .u64 x 6148914691236517205))) 3689348814741910323))))) 1085102592571150095) (2 ^ 8)))) + (Int.fdiv (IntKind.wrap .u64 ((bits .and .u64 (IntKind.wrap .u64 ((Int.fdiv (IntKind.wrap .u64 ((bits .and .u64 (Int.fdiv (IntKind.wrap .u64 ((bits .and .u64 (Int.fdiv x (2 ^ 1)) 6148914691236517205) + (bits .and .u64 x 6148914691236517205))) (2 ^ 2)) 3689348814741910323) + (bits .and .u64 (IntKind.wrap .u64 ((bits .and .u64 (Int.fdiv x (2 ^ 1)) 6148914691236517205) + (bits .and .u64 x 6148914691236517205))) 3689348814741910323))) (2 ^ 4)) + (IntKind.wrap .u64 ((bits .and .u64 (Int.fdiv (IntKind.wrap .u64 ((bits .and .u64 (Int.fdiv x (2 ^ 1)) 6148914691236517205) + (bits .and .u64 x 6148914691236517205))) (2 ^ 2)) 3689348814741910323) + (bits .and .u64 (IntKind.wrap .u64 ((bits .and .u64 (Int.fdiv x (2 ^ 1)) 6148914691236517205) + (bits .and .u64 x 6148914691236517205))) 3689348814741910323))))) 1085102592571150095) + (Int.fdiv (bits .and .u64 (IntKind.wrap .u64 ((Int.fdiv (IntKind.wrap .u64 ((bits .and .u64 (Int.fdiv (IntKind.wrap .u64 ((bits .and .u64 (Int.fdiv x (2 ^ 1)) 6148914691236517205) + (bits .and .u64 x 6148914691236517205))) (2 ^ 2)) 3689348814741910323) + (bits .and .u64 (IntKind.wrap .u64 ((bits .and .u64 (Int.fdiv x (2 ^ 1)) 6148914691236517205) + (bits .and .u64 x 6148914691236517205))) 3689348814741910323))) (2 ^ 4)) + (IntKind.wrap .u64 ((bits .and .u64 (Int.fdiv (IntKind.wrap .u64 ((bits .and .u64 (Int.fdiv x (2 ^ 1)) 6148914691236517205) + (bits .and .u64 x 6148914691236517205))) (2 ^ 2)) 3689348814741910323) + (bits .and .u64 (IntKind.wrap .u64 ((bits .and .u64 (Int.fdiv x (2 ^ 1)) 6148914691236517205) + (bits .and .u64 x 6148914691236517205))) 3689348814741910323))))) 1085102592571150095) (2 ^ 8)))) (2 ^ 16)))) + (Int.fdiv (IntKind.wrap .u64 ((IntKind.wrap .u64 ((bits .and .u64 (IntKind.wrap .u64 ((Int.fdiv (IntKind.wrap .u64 ((bits .and .u64 (Int.fdiv (IntKind.wrap .u64 ((bits .and .u64 (Int.fdiv x (2 ^ 1)) 6148914691236517205) + (bits .and .u64 x 6148914691236517205))) (2 ^ 2)) 3689348814741910323) + (bits .and .u64 (IntKind.wrap .u64 ((bits .and .u64 (Int.fdiv x (2 ^ 1)) 6148914691236517205) + (bits .and .u64 x 6148914691236517205))) 3689348814741910323))) (2 ^ 4)) + (IntKind.wrap .u64 ((bits .and .u64 (Int.fdiv (IntKind.wrap .u64 ((bits .and .u64 (Int.fdiv x (2 ^ 1)) 6148914691236517205) + (bits .and .u64 x 6148914691236517205))) (2 ^ 2)) 3689348814741910323) + (bits .and .u64 (IntKind.wrap .u64 ((bits .and .u64 (Int.fdiv x (2 ^ 1)) 6148914691236517205) + (bits .and .u64 x 6148914691236517205))) 3689348814741910323))))) 1085102592571150095) + (Int.fdiv (bits .and .u64 (IntKind.wrap .u64 ((Int.fdiv (IntKind.wrap .u64 ((bits .and .u64 (Int.fdiv (IntKind.wrap .u64 ((bits .and .u64 (Int.fdiv x (2 ^ 1)) 6148914691236517205) + (bits .and .u64 x 6148914691236517205))) (2 ^ 2)) 3689348814741910323) + (bits .and .u64 (IntKind.wrap .u64 ((bits .and .u64 (Int.fdiv x (2 ^ 1)) 6148914691236517205) + (bits .and .u64 x 6148914691236517205))) 3689348814741910323))) (2 ^ 4)) + (IntKind.wrap .u64 ((bits .and .u64 (Int.fdiv (IntKind.wrap .u64 ((bits .and .u64 (Int.fdiv x (2 ^ 1)) 6148914691236517205) + (bits .and .u64 x 6148914691236517205))) (2 ^ 2)) 3689348814741910323) + (bits .and .u64 (IntKind.wrap .u64 ((bits .and .u64 (Int.fdiv x (2 ^ 1)) 6148914691236517205) + (bits .and .u64 x 6148914691236517205))) 3689348814741910323))))) 1085102592571150095) (2 ^ 8)))) + (Int.fdiv (IntKind.wrap .u64 ((bits .and .u64 (IntKind.wrap .u64 ((Int.fdiv (IntKind.wrap .u64 ((bits .and .u64 (Int.fdiv (IntKind.wrap .u64 ((bits .and .u64 (Int.fdiv x (2 ^ 1)) 6148914691236517205) + (bits .and .u64 x 6148914691236517205))) (2 ^ 2)) 3689348814741910323) + (bits .and .u64 (IntKind.wrap .u64 ((bits .and .u64 (Int.fdiv x (2 ^ 1)) 6148914691236517205) + (bits .and .u64 x 6148914691236517205))) 3689348814741910323))) (2 ^ 4)) + (IntKind.wrap .u64 ((bits .and .u64 (Int.fdiv (IntKind.wrap .u64 ((bits .and .u64 (Int.fdiv x (2 ^ 1)) 6148914691236517205) + (bits .and .u64 x 6148914691236517205))) (2 ^ 2)) 3689348814741910323) + (bits .and .u64 (IntKind.wrap .u64 ((bits .and .u64 (Int.fdiv x (2 ^ 1)) 6148914691236517205) + (bits .and .u64 x 6148914691236517205))) 3689348814741910323))))) 1085102592571150095) + (Int.fdiv (bits .and .u64 (IntKind.wrap .u64 ((Int.fdiv (IntKind.wrap .u64 ((bits .and .u64 (Int.fdiv (IntKind.wrap .u64 ((bits .and .u64 (Int.fdiv x (2 ^ 1)) 6148914691236517205) + (bits .and .u64 x 6148914691236517205))) (2 ^ 2)) 3689348814741910323) + (bits .and .u64 (IntKind.wrap .u64 ((bits .and .u64 (Int.fdiv x (2 ^ 1)) 6148914691236517205) + (bits .and .u64 x 6148914691236517205))) 3689348814741910323))) (2 ^ 4)) + (IntKind.wrap .u64 ((bits .and .u64 (Int.fdiv (IntKind.wrap .u64 ((bits .and .u64 (Int.fdiv x (2 ^ 1)) 6148914691236517205) + (bits .and .u64 x 6148914691236517205))) (2 ^ 2)) 3689348814741910323) + (bits .and .u64 (IntKind.wrap .u64 ((bits .and .u64 (Int.fdiv x (2 ^ 1)) 6148914691236517205) + (bits .and .u64 x 6148914691236517205))) 3689348814741910323))))) 1085102592571150095) (2 ^ 8)))) (2 ^ 16)))) (2 ^ 32))))) 127)
theorem f78_bits_OnesCount64_ok (x : Int) (r : Int) (h : f78_bits_OnesCount64 x = some r) : FnOK Go.Proofs.Try.prog 78 (f78_bits_OnesCount64_in x) (f78_bits_OnesCount64_out r) := by
  unfold f78_bits_OnesCount64 at h
  refine At.fn (r := 0) Go.Proofs.Try.func78 rfl (by kernel_rfl) rfl rfl (by kernel_rfl) ?_
  show At Go.Proofs.Try.prog Go.Proofs.Try.f78 0 0 ⟨[(0, .one (.c (.d (.int .u64 x))))], [], [], 0⟩ _
  refine At.step hm ht ⟨[], [], [], [0], []⟩ 1 ⟨[(0, .one (.c (.d (.int .u64 x))))], [], [], 0⟩ [] (by kernel_rfl) trivial ?_
  refine At.step hm ht ⟨[], [], [], [0], []⟩ 2 ⟨[(0, .one (.c (.d (.int .u64 (IntKind.wrap .u64 ((bits .and .u64 (Int.fdiv x (2 ^ 1)) 6148914691236517205) + (bits .and .u64 x 6148914691236517205)))))))], [], [], 0⟩ [(0 : Int) ≤ 1] (by kernel_rfl) ⟨(by decide), trivial⟩ ?_
  refine At.step hm ht ⟨[], [], [], [0], []⟩ 3 ⟨[(0, .one (.c (.d (.int .u64 (IntKind.wrap .u64 ((bits .and .u64 (Int.fdiv (IntKind.wrap .u64 ((bits .and .u64 (Int.fdiv x (2 ^ 1)) 6148914691236517205) + (bits .and .u64 x 6148914691236517205))) (2 ^ 2)) 3689348814741910323) + (bits .and .u64 (IntKind.wrap .u64 ((bits .and .u64 (Int.fdiv x (2 ^ 1)) 6148914691236517205) + (bits .and .u64 x 6148914691236517205))) 3689348814741910323)))))))], [], [], 0⟩ [(0 : Int) ≤ 2] (by kernel_rfl) ⟨(by decide), trivial⟩ ?_
  refine At.step hm ht ⟨[], [], [], [0], []⟩ 4 ⟨[(0, .one (.c (.d (.int .u64 (bits .and .u64 (IntKind.wrap .u64 ((Int.fdiv (IntKind.wrap .u64 ((bits .and .u64 (Int.fdiv (IntKind.wrap .u64 ((bits .and .u64 (Int.fdiv x (2 ^ 1)) 6148914691236517205) + (bits .and .u64 x 6148914691236517205))) (2 ^ 2)) 3689348814741910323) + (bits .and .u64 (IntKind.wrap .u64 ((bits .and .u64 (Int.fdiv x (2 ^ 1)) 6148914691236517205) + (bits .and .u64 x 6148914691236517205))) 3689348814741910323))) (2 ^ 4)) + (IntKind.wrap .u64 ((bits .and .u64 (Int.fdiv (IntKind.wrap .u64 ((bits .and .u64 (Int.fdiv x (2 ^ 1)) 6148914691236517205) + (bits .and .u64 x 6148914691236517205))) (2 ^ 2)) 3689348814741910323) + (bits .and .u64 (IntKind.wrap .u64 ((bits .and .u64 (Int.fdiv x (2 ^ 1)) 6148914691236517205) + (bits .and .u64 x 6148914691236517205))) 3689348814741910323))))) 1085102592571150095)))))], [], [], 0⟩ [(0 : Int) ≤ 4] (by kernel_rfl) ⟨(by decide), trivial⟩ ?_
  refine At.step hm ht ⟨[], [], [], [0], []⟩ 5 ⟨[(0, .one (.c (.d (.int .u64 (IntKind.wrap .u64 ((bits .and .u64 (IntKind.wrap .u64 ((Int.fdiv (IntKind.wrap .u64 ((bits .and .u64 (Int.fdiv (IntKind.wrap .u64 ((bits .and .u64 (Int.fdiv x (2 ^ 1)) 6148914691236517205) + (bits .and .u64 x 6148914691236517205))) (2 ^ 2)) 3689348814741910323) + (bits .and .u64 (IntKind.wrap .u64 ((bits .and .u64 (Int.fdiv x (2 ^ 1)) 6148914691236517205) + (bits .and .u64 x 6148914691236517205))) 3689348814741910323))) (2 ^ 4)) + (IntKind.wrap .u64 ((bits .and .u64 (Int.fdiv (IntKind.wrap .u64 ((bits .and .u64 (Int.fdiv x (2 ^ 1)) 6148914691236517205) + (bits .and .u64 x 6148914691236517205))) (2 ^ 2)) 3689348814741910323) + (bits .and .u64 (IntKind.wrap .u64 ((bits .and .u64 (Int.fdiv x (2 ^ 1)) 6148914691236517205) + (bits .and .u64 x 6148914691236517205))) 3689348814741910323))))) 1085102592571150095) + (Int.fdiv (bits .and .u64 (IntKind.wrap .u64 ((Int.fdiv (IntKind.wrap .u64 ((bits .and .u64 (Int.fdiv (IntKind.wrap .u64 ((bits .and .u64 (Int.fdiv x (2 ^ 1)) 6148914691236517205) + (bits .and .u64 x 6148914691236517205))) (2 ^ 2)) 3689348814741910323) + (bits .and .u64 (IntKind.wrap .u64 ((bits .and .u64 (Int.fdiv x (2 ^ 1)) 6148914691236517205) + (bits .and .u64 x 6148914691236517205))) 3689348814741910323))) (2 ^ 4)) + (IntKind.wrap .u64 ((bits .and .u64 (Int.fdiv (IntKind.wrap .u64 ((bits .and .u64 (Int.fdiv x (2 ^ 1)) 6148914691236517205) + (bits .and .u64 x 6148914691236517205))) (2 ^ 2)) 3689348814741910323) + (bits .and .u64 (IntKind.wrap .u64 ((bits .and .u64 (Int.fdiv x (2 ^ 1)) 6148914691236517205) + (bits .and .u64 x 6148914691236517205))) 3689348814741910323))))) 1085102592571150095) (2 ^ 8))))))))], [], [], 0⟩ [(0 : Int) ≤ 8] (by kernel_rfl) ⟨(by decide), trivial⟩ ?_
  refine At.step hm ht ⟨[], [], [], [0], []⟩ 6 ⟨[(0, .one (.c (.d (.int .u64 (IntKind.wrap .u64 ((IntKind.wrap .u64 ((bits .and .u64 (IntKind.wrap .u64 ((Int.fdiv (IntKind.wrap .u64 ((bits .and .u64 (Int.fdiv (IntKind.wrap .u64 ((bits .and .u64 (Int.fdiv x (2 ^ 1)) 6148914691236517205) + (bits .and .u64 x 6148914691236517205))) (2 ^ 2)) 3689348814741910323) + (bits .and .u64 (IntKind.wrap .u64 ((bits .and .u64 (Int.fdiv x (2 ^ 1)) 6148914691236517205) + (bits .and .u64 x 6148914691236517205))) 3689348814741910323))) (2 ^ 4)) + (IntKind.wrap .u64 ((bits .and .u64 (Int.fdiv (IntKind.wrap .u64 ((bits .and .u64 (Int.fdiv x (2 ^ 1)) 6148914691236517205) + (bits .and .u64 x 6148914691236517205))) (2 ^ 2)) 3689348814741910323) + (bits .and .u64 (IntKind.wrap .u64 ((bits .and .u64 (Int.fdiv x (2 ^ 1)) 6148914691236517205) + (bits .and .u64 x 6148914691236517205))) 3689348814741910323))))) 1085102592571150095) + (Int.fdiv (bits .and .u64 (IntKind.wrap .u64 ((Int.fdiv (IntKind.wrap .u64 ((bits .and .u64 (Int.fdiv (IntKind.wrap .u64 ((bits .and .u64 (Int.fdiv x (2 ^ 1)) 6148914691236517205) + (bits .and .u64 x 6148914691236517205))) (2 ^ 2)) 3689348814741910323) + (bits .and .u64 (IntKind.wrap .u64 ((bits .and .u64 (Int.fdiv x (2 ^ 1)) 6148914691236517205) + (bits .and .u64 x 6148914691236517205))) 3689348814741910323))) (2 ^ 4)) + (IntKind.wrap .u64 ((bits .and .u64 (Int.fdiv (IntKind.wrap .u64 ((bits .and .u64 (Int.fdiv x (2 ^ 1)) 6148914691236517205) + (bits .and .u64 x 6148914691236517205))) (2 ^ 2)) 3689348814741910323) + (bits .and .u64 (IntKind.wrap .u64 ((bits .and .u64 (Int.fdiv x (2 ^ 1)) 6148914691236517205) + (bits .and .u64 x 6148914691236517205))) 3689348814741910323))))) 1085102592571150095) (2 ^ 8)))) + (Int.fdiv (IntKind.wrap .u64 ((bits .and .u64 (IntKind.wrap .u64 ((Int.fdiv (IntKind.wrap .u64 ((bits .and .u64 (Int.fdiv (IntKind.wrap .u64 ((bits .and .u64 (Int.fdiv x (2 ^ 1)) 6148914691236517205) + (bits .and .u64 x 6148914691236517205))) (2 ^ 2)) 3689348814741910323) + (bits .and .u64 (IntKind.wrap .u64 ((bits .and .u64 (Int.fdiv x (2 ^ 1)) 6148914691236517205) + (bits .and .u64 x 6148914691236517205))) 3689348814741910323))) (2 ^ 4)) + (IntKind.wrap .u64 ((bits .and .u64 (Int.fdiv (IntKind.wrap .u64 ((bits .and .u64 (Int.fdiv x (2 ^ 1)) 6148914691236517205) + (bits .and .u64 x 6148914691236517205))) (2 ^ 2)) 3689348814741910323) + (bits .and .u64 (IntKind.wrap .u64 ((bits .and .u64 (Int.fdiv x (2 ^ 1)) 6148914691236517205) + (bits .and .u64 x 6148914691236517205))) 3689348814741910323))))) 1085102592571150095) + (Int.fdiv (bits .and .u64 (IntKind.wrap .u64 ((Int.fdiv (IntKind.wrap .u64 ((bits .and .u64 (Int.fdiv (IntKind.wrap .u64 ((bits .and .u64 (Int.fdiv x (2 ^ 1)) 6148914691236517205) + (bits .and .u64 x 6148914691236517205))) (2 ^ 2)) 3689348814741910323) + (bits .and .u64 (IntKind.wrap .u64 ((bits .and .u64 (Int.fdiv x (2 ^ 1)) 6148914691236517205) + (bits .and .u64 x 6148914691236517205))) 3689348814741910323))) (2 ^ 4)) + (IntKind.wrap .u64 ((bits .and .u64 (Int.fdiv (IntKind.wrap .u64 ((bits .and .u64 (Int.fdiv x (2 ^ 1)) 6148914691236517205) + (bits .and .u64 x 6148914691236517205))) (2 ^ 2)) 3689348814741910323) + (bits .and .u64 (IntKind.wrap .u64 ((bits .and .u64 (Int.fdiv x (2 ^ 1)) 6148914691236517205) + (bits .and .u64 x 6148914691236517205))) 3689348814741910323))))) 1085102592571150095) (2 ^ 8)))) (2 ^ 16))))))))], [], [], 0⟩ [(0 : Int) ≤ 16] (by kernel_rfl) ⟨(by decide), trivial⟩ ?_
  refine At.step hm ht ⟨[], [], [], [0], []⟩ 7 ⟨[(0, .one (.c (.d (.int .u64 (IntKind.wrap .u64 ((IntKind.wrap .u64 ((IntKind.wrap .u64 ((bits .and .u64 (IntKind.wrap .u64 ((Int.fdiv (IntKind.wrap .u64 ((bits .and .u64 (Int.fdiv (IntKind.wrap .u64 ((bits .and .u64 (Int.fdiv x (2 ^ 1)) 6148914691236517205) + (bits .and .u64 x 6148914691236517205))) (2 ^ 2)) 3689348814741910323) + (bits .and .u64 (IntKind.wrap .u64 ((bits .and .u64 (Int.fdiv x (2 ^ 1)) 6148914691236517205) + (bits .and .u64 x 6148914691236517205))) 3689348814741910323))) (2 ^ 4)) + (IntKind.wrap .u64 ((bits .and .u64 (Int.fdiv (IntKind.wrap .u64 ((bits .and .u64 (Int.fdiv x (2 ^ 1)) 6148914691236517205) + (bits .and .u64 x 6148914691236517205))) (2 ^ 2)) 3689348814741910323) + (bits .and .u64 (IntKind.wrap .u64 ((bits .and .u64 (Int.fdiv x (2 ^ 1)) 6148914691236517205) + (bits .and .u64 x 6148914691236517205))) 3689348814741910323))))) 1085102592571150095) + (Int.fdiv (bits .and .u64 (IntKind.wrap .u64 ((Int.fdiv (IntKind.wrap .u64 ((bits .and .u64 (Int.fdiv (IntKind.wrap .u64 ((bits .and .u64 (Int.fdiv x (2 ^ 1)) 6148914691236517205) + (bits .and .u64 x 6148914691236517205))) (2 ^ 2)) 3689348814741910323) + (bits .and .u64 (IntKind.wrap .u64 ((bits .and .u64 (Int.fdiv x (2 ^ 1)) 6148914691236517205) + (bits .and .u64 x 6148914691236517205))) 3689348814741910323))) (2 ^ 4)) + (IntKind.wrap .u64 ((bits .and .u64 (Int.fdiv (IntKind.wrap .u64 ((bits .and .u64 (Int.fdiv x (2 ^ 1)) 6148914691236517205) + (bits .and .u64 x 6148914691236517205))) (2 ^ 2)) 3689348814741910323) + (bits .and .u64 (IntKind.wrap .u64 ((bits .and .u64 (Int.fdiv x (2 ^ 1)) 6148914691236517205) + (bits .and .u64 x 6148914691236517205))) 3689348814741910323))))) 1085102592571150095) (2 ^ 8)))) + (Int.fdiv (IntKind.wrap .u64 ((bits .and .u64 (IntKind.wrap .u64 ((Int.fdiv (IntKind.wrap .u64 ((bits .and .u64 (Int.fdiv (IntKind.wrap .u64 ((bits .and .u64 (Int.fdiv x (2 ^ 1)) 6148914691236517205) + (bits .and .u64 x 6148914691236517205))) (2 ^ 2)) 3689348814741910323) + (bits .and .u64 (IntKind.wrap .u64 ((bits .and .u64 (Int.fdiv x (2 ^ 1)) 6148914691236517205) + (bits .and .u64 x 6148914691236517205))) 3689348814741910323))) (2 ^ 4)) + (IntKind.wrap .u64 ((bits .and .u64 (Int.fdiv (IntKind.wrap .u64 ((bits .and .u64 (Int.fdiv x (2 ^ 1)) 6148914691236517205) + (bits .and .u64 x 6148914691236517205))) (2 ^ 2)) 3689348814741910323) + (bits .and .u64 (IntKind.wrap .u64 ((bits .and .u64 (Int.fdiv x (2 ^ 1)) 6148914691236517205) + (bits .and .u64 x 6148914691236517205))) 3689348814741910323))))) 1085102592571150095) + (Int.fdiv (bits .and .u64 (IntKind.wrap .u64 ((Int.fdiv (IntKind.wrap .u64 ((bits .and .u64 (Int.fdiv (IntKind.wrap .u64 ((bits .and .u64 (Int.fdiv x (2 ^ 1)) 6148914691236517205) + (bits .and .u64 x 6148914691236517205))) (2 ^ 2)) 3689348814741910323) + (bits .and .u64 (IntKind.wrap .u64 ((bits .and .u64 (Int.fdiv x (2 ^ 1)) 6148914691236517205) + (bits .and .u64 x 6148914691236517205))) 3689348814741910323))) (2 ^ 4)) + (IntKind.wrap .u64 ((bits .and .u64 (Int.fdiv (IntKind.wrap .u64 ((bits .and .u64 (Int.fdiv x (2 ^ 1)) 6148914691236517205) + (bits .and .u64 x 6148914691236517205))) (2 ^ 2)) 3689348814741910323) + (bits .and .u64 (IntKind.wrap .u64 ((bits .and .u64 (Int.fdiv x (2 ^ 1)) 6148914691236517205) + (bits .and .u64 x 6148914691236517205))) 3689348814741910323))))) 1085102592571150095) (2 ^ 8)))) (2 ^ 16)))) + (Int.fdiv (IntKind.wrap .u64 ((IntKind.wrap .u64 ((bits .and .u64 (IntKind.wrap .u64 ((Int.fdiv (IntKind.wrap .u64 ((bits .and .u64 (Int.fdiv (IntKind.wrap .u64 ((bits .and .u64 (Int.fdiv x (2 ^ 1)) 6148914691236517205) + (bits .and .u64 x 6148914691236517205))) (2 ^ 2)) 3689348814741910323) + (bits .and .u64 (IntKind.wrap .u64 ((bits .and .u64 (Int.fdiv x (2 ^ 1)) 6148914691236517205) + (bits .and .u64 x 6148914691236517205))) 3689348814741910323))) (2 ^ 4)) + (IntKind.wrap .u64 ((bits .and .u64 (Int.fdiv (IntKind.wrap .u64 ((bits .and .u64 (Int.fdiv x (2 ^ 1)) 6148914691236517205) + (bits .and .u64 x 6148914691236517205))) (2 ^ 2)) 3689348814741910323) + (bits .and .u64 (IntKind.wrap .u64 ((bits .and .u64 (Int.fdiv x (2 ^ 1)) 6148914691236517205) + (bits .and .u64 x 6148914691236517205))) 3689348814741910323))))) 1085102592571150095) + (Int.fdiv (bits .and .u64 (IntKind.wrap .u64 ((Int.fdiv (IntKind.wrap .u64 ((bits .and .u64 (Int.fdiv (IntKind.wrap .u64 ((bits .and .u64 (Int.fdiv x (2 ^ 1)) 6148914691236517205) + (bits .and .u64 x 6148914691236517205))) (2 ^ 2)) 3689348814741910323) + (bits .and .u64 (IntKind.wrap .u64 ((bits .and .u64 (Int.fdiv x (2 ^ 1)) 6148914691236517205) + (bits .and .u64 x 6148914691236517205))) 3689348814741910323))) (2 ^ 4)) + (IntKind.wrap .u64 ((bits .and .u64 (Int.fdiv (IntKind.wrap .u64 ((bits .and .u64 (Int.fdiv x (2 ^ 1)) 6148914691236517205) + (bits .and .u64 x 6148914691236517205))) (2 ^ 2)) 3689348814741910323) + (bits .and .u64 (IntKind.wrap .u64 ((bits .and .u64 (Int.fdiv x (2 ^ 1)) 6148914691236517205) + (bits .and .u64 x 6148914691236517205))) 3689348814741910323))))) 1085102592571150095) (2 ^ 8)))) + (Int.fdiv (IntKind.wrap .u64 ((bits .and .u64 (IntKind.wrap .u64 ((Int.fdiv (IntKind.wrap .u64 ((bits .and .u64 (Int.fdiv (IntKind.wrap .u64 ((bits .and .u64 (Int.fdiv x (2 ^ 1)) 6148914691236517205) + (bits .and .u64 x 6148914691236517205))) (2 ^ 2)) 3689348814741910323) + (bits .and .u64 (IntKind.wrap .u64 ((bits .and .u64 (Int.fdiv x (2 ^ 1)) 6148914691236517205) + (bits .and .u64 x 6148914691236517205))) 3689348814741910323))) (2 ^ 4)) + (IntKind.wrap .u64 ((bits .and .u64 (Int.fdiv (IntKind.wrap .u64 ((bits .and .u64 (Int.fdiv x (2 ^ 1)) 6148914691236517205) + (bits .and .u64 x 6148914691236517205))) (2 ^ 2)) 3689348814741910323) + (bits .and .u64 (IntKind.wrap .u64 ((bits .and .u64 (Int.fdiv x (2 ^ 1)) 6148914691236517205) + (bits .and .u64 x 6148914691236517205))) 3689348814741910323))))) 1085102592571150095) + (Int.fdiv (bits .and .u64 (IntKind.wrap .u64 ((Int.fdiv (IntKind.wrap .u64 ((bits .and .u64 (Int.fdiv (IntKind.wrap .u64 ((bits .and .u64 (Int.fdiv x (2 ^ 1)) 6148914691236517205) + (bits .and .u64 x 6148914691236517205))) (2 ^ 2)) 3689348814741910323) + (bits .and .u64 (IntKind.wrap .u64 ((bits .and .u64 (Int.fdiv x (2 ^ 1)) 6148914691236517205) + (bits .and .u64 x 6148914691236517205))) 3689348814741910323))) (2 ^ 4)) + (IntKind.wrap .u64 ((bits .and .u64 (Int.fdiv (IntKind.wrap .u64 ((bits .and .u64 (Int.fdiv x (2 ^ 1)) 6148914691236517205) + (bits .and .u64 x 6148914691236517205))) (2 ^ 2)) 3689348814741910323) + (bits .and .u64 (IntKind.wrap .u64 ((bits .and .u64 (Int.fdiv x (2 ^ 1)) 6148914691236517205) + (bits .and .u64 x 6148914691236517205))) 3689348814741910323))))) 1085102592571150095) (2 ^ 8)))) (2 ^ 16)))) (2 ^ 32))))))))], [], [], 0⟩ [(0 : Int) ≤ 32] (by kernel_rfl) ⟨(by decide), trivial⟩ ?_
  have h := Option.some.inj h
  subst h
  exact At.fin hm ht ⟨[], [], [], [2], []⟩ [] (by kernel_rfl) trivial
/-! (*brougham/replay.Window).Many -/
def f38_replay_Window_Many_in (w__0 : Bool) (w__1 : Int) (w__2 : Int) (w__3 : Int) (w__4 : Int) (w__5 : Int) : Inn := ⟨[.c (.ptr 0 0)], [], [(0, [.d (.bool w__0), .d (.int .u64 w__1), .d (.int .u64 w__2), .d (.int .u64 w__3), .d (.int .u64 w__4), .d (.int .u64 w__5)])], 1⟩
def f38_replay_Window_Many_out (r : Int × Bool × Int × Int × Int × Int × Int) : Out := ⟨.one (.c (.d (.int .i64 r.1))), [], [(0, [.d (.bool r.2.1), .d (.int .u64 r.2.2.1), .d (.int .u64 r.2.2.2.1), .d (.int .u64 r.2.2.2.2.1), .d (.int .u64 r.2.2.2.2.2.1), .d (.int .u64 r.2.2.2.2.2.2)])], 1⟩
def f38_replay_Window_Many_L3 : Nat → Int → Int → Int → Int → Int → Int → Bool → Int → Int → Int → Int → Int → Option (Int × Bool × Int × Int × Int × Int × Int)
  | 0, _, _, _, _, _, _, _, _, _, _, _, _ => none
  | n + 1, n_, t9_0, t9_1, t9_2, t9_3, t10, b0_0, b0_1, b0_2, b0_3, b0_4, b0_5 =>
    if (decide ((t10 : Int) < 4)) = true then
      if (0 : Int) ≤ t10 ∧ t10 < 4 then
      (f78_bits_OnesCount64 (([t9_0, t9_1, t9_2, t9_3] : List Int).getD t10.toNat 0)).bind fun r116_0 =>
      f38_replay_Window_Many_L3 n (IntKind.wrap .i64 (n_ + r116_0)) t9_0 t9_1 t9_2 t9_3 (IntKind.wrap .i64 (t10 + 1)) b0_0 b0_1 b0_2 b0_3 b0_4 b0_5
      else none
    else
      some ((n_, b0_0, b0_1, b0_2, b0_3, b0_4, b0_5))
def f38_replay_Window_Many_L3_k (e : Int × Bool × Int × Int × Int × Int × Int) (o : Out) : Prop := At Go.Proofs.Try.prog Go.Proofs.Try.f38 1 7 ⟨[(3, .one (.c (.d (.int .i64 e.1))))], [], [(0, [.d (.bool e.2.1), .d (.int .u64 e.2.2.1), .d (.int .u64 e.2.2.2.1), .d (.int .u64 e.2.2.2.2.1), .d (.int .u64 e.2.2.2.2.2.1), .d (.int .u64 e.2.2.2.2.2.2)])], 1⟩ o
theorem f38_replay_Window_Many_L3_ok (n : Nat) : ∀ (n_ : Int) (t9_0 : Int) (t9_1 : Int) (t9_2 : Int) (t9_3 : Int) (t10 : Int) (b0_0 : Bool) (b0_1 : Int) (b0_2 : Int) (b0_3 : Int) (b0_4 : Int) (b0_5 : Int) (w : Int × Bool × Int × Int × Int × Int × Int) (h : f38_replay_Window_Many_L3 n n_ t9_0 t9_1 t9_2 t9_3 t10 b0_0 b0_1 b0_2 b0_3 b0_4 b0_5 = some w) (o : Out) (hk : f38_replay_Window_Many_L3_k w o), At Go.Proofs.Try.prog Go.Proofs.Try.f38 1 3 ⟨[(3, .one (.c (.d (.int .i64 n_)))), (9, .one (.agg [.d (.int .u64 t9_0), .d (.int .u64 t9_1), .d (.int .u64 t9_2), .d (.int .u64 t9_3)])), (10, .one (.c (.d (.int .i64 t10))))], [], [(0, [.d (.bool b0_0), .d (.int .u64 b0_1), .d (.int .u64 b0_2), .d (.int .u64 b0_3), .d (.int .u64 b0_4), .d (.int .u64 b0_5)])], 1⟩ o := by
  induction n with
  | zero => intro n_ t9_0 t9_1 t9_2 t9_3 t10 b0_0 b0_1 b0_2 b0_3 b0_4 b0_5 w h; rw [f38_replay_Window_Many_L3] at h; cases h
  | succ n ih =>
    intro n_ t9_0 t9_1 t9_2 t9_3 t10 b0_0 b0_1 b0_2 b0_3 b0_4 b0_5 w h o hk
    rw [f38_replay_Window_Many_L3] at h
    rcases iteS h with ⟨b114_e0, h⟩ | ⟨b114_e0, h⟩
    · refine At.step hm ht ⟨[], [true], [], [3, 9, 10], [0]⟩ 4 ⟨[(3, .one (.c (.d (.int .i64 n_)))), (9, .one (.agg [.d (.int .u64 t9_0), .d (.int .u64 t9_1), .d (.int .u64 t9_2), .d (.int .u64 t9_3)])), (10, .one (.c (.d (.int .i64 t10))))], [], [(0, [.d (.bool b0_0), .d (.int .u64 b0_1), .d (.int .u64 b0_2), .d (.int .u64 b0_3), .d (.int .u64 b0_4), .d (.int .u64 b0_5)])], 1⟩ [(decide ((t10 : Int) < 4)) = true] (by kernel_rfl) ⟨b114_e0, trivial⟩ ?_
      obtain ⟨g115_0, h⟩ := ifS h
      refine At.step hm ht ⟨[], [], [], [3, 5, 9, 10], [0]⟩ 5 ⟨[(3, .one (.c (.d (.int .i64 n_)))), (5, .one (.c (.d (.int .u64 (([t9_0, t9_1, t9_2, t9_3] : List Int).getD t10.toNat 0))))), (9, .one (.agg [.d (.int .u64 t9_0), .d (.int .u64 t9_1), .d (.int .u64 t9_2), .d (.int .u64 t9_3)])), (10, .one (.c (.d (.int .i64 t10))))], [], [(0, [.d (.bool b0_0), .d (.int .u64 b0_1), .d (.int .u64 b0_2), .d (.int .u64 b0_3), .d (.int .u64 b0_4), .d (.int .u64 b0_5)])], 1⟩ [(0 : Int) ≤ t10 ∧ t10 < 4] (by kernel_rfl) ⟨g115_0, trivial⟩ ?_
      obtain ⟨r116_0, cr116_0, h⟩ := bindS h
      refine At.step hm ht ⟨[(2, .call [] [] (f78_bits_OnesCount64_out r116_0))], [], [], [3, 9, 10], [0]⟩ 6 ⟨[(3, .one (.c (.d (.int .i64 (IntKind.wrap .i64 (n_ + r116_0)))))), (9, .one (.agg [.d (.int .u64 t9_0), .d (.int .u64 t9_1), .d (.int .u64 t9_2), .d (.int .u64 t9_3)])), (10, .one (.c (.d (.int .i64 t10))))], [], [(0, [.d (.bool b0_0), .d (.int .u64 b0_1), .d (.int .u64 b0_2), .d (.int .u64 b0_3), .d (.int .u64 b0_4), .d (.int .u64 b0_5)])], 1⟩ [FnOK Go.Proofs.Try.prog 78 (f78_bits_OnesCount64_in (([t9_0, t9_1, t9_2, t9_3] : List Int).getD t10.toNat 0)) (f78_bits_OnesCount64_out r116_0)] (by kernel_rfl) ⟨(f78_bits_OnesCount64_ok (([t9_0, t9_1, t9_2, t9_3] : List Int).getD t10.toNat 0) r116_0 cr116_0), trivial⟩ ?_
      refine At.step hm ht ⟨[], [], [], [3, 9, 10], [0]⟩ 3 ⟨[(3, .one (.c (.d (.int .i64 (IntKind.wrap .i64 (n_ + r116_0)))))), (9, .one (.agg [.d (.int .u64 t9_0), .d (.int .u64 t9_1), .d (.int .u64 t9_2), .d (.int .u64 t9_3)])), (10, .one (.c (.d (.int .i64 (IntKind.wrap .i64 (t10 + 1))))))], [], [(0, [.d (.bool b0_0), .d (.int .u64 b0_1), .d (.int .u64 b0_2), .d (.int .u64 b0_3), .d (.int .u64 b0_4), .d (.int .u64 b0_5)])], 1⟩ [] (by kernel_rfl) trivial ?_
      exact ih (IntKind.wrap .i64 (n_ + r116_0)) t9_0 t9_1 t9_2 t9_3 (IntKind.wrap .i64 (t10 + 1)) b0_0 b0_1 b0_2 b0_3 b0_4 b0_5 w h o hk
    · refine At.step hm ht ⟨[], [false], [], [3], [0]⟩ 7 ⟨[(3, .one (.c (.d (.int .i64 n_))))], [], [(0, [.d (.bool b0_0), .d (.int .u64 b0_1), .d (.int .u64 b0_2), .d (.int .u64 b0_3), .d (.int .u64 b0_4), .d (.int .u64 b0_5)])], 1⟩ [(decide ((t10 : Int) < 4)) = false] (by kernel_rfl) ⟨b114_e0, trivial⟩ ?_
      have h := Option.some.inj h
      subst h
      exact hk
def f38_replay_Window_Many (n : Nat) (w__0 : Bool) (w__1 : Int) (w__2 : Int) (w__3 : Int) (w__4 : Int) (w__5 : Int) : Option (Int × Bool × Int × Int × Int × Int × Int) :=
  (f38_replay_Window_Many_L3 n 0 w__2 w__3 w__4 w__5 0 w__0 w__1 w__2 w__3 w__4 w__5).bind fun w126 =>
  some (w126.1, w126.2.1, w126.2.2.1, w126.2.2.2.1, w126.2.2.2.2.1, w126.2.2.2.2.2.1, w126.2.2.2.2.2.2)
theorem f38_replay_Window_Many_ok (n : Nat) (w__0 : Bool) (w__1 : Int) (w__2 : Int) (w__3 : Int) (w__4 : Int) (w__5 : Int) (r : Int × Bool × Int × Int × Int × Int × Int) (h : f38_replay_Window_Many n w__0 w__1 w__2 w__3 w__4 w__5 = some r) : FnOK Go.Proofs.Try.prog 38 (f38_replay_Window_Many_in w__0 w__1 w__2 w__3 w__4 w__5) (f38_replay_Window_Many_out r) := by
  unfold f38_replay_Window_Many at h
  refine At.fn (r := 0) Go.Proofs.Try.func38 rfl (by kernel_rfl) rfl rfl (by kernel_rfl) ?_
  show At Go.Proofs.Try.prog Go.Proofs.Try.f38 1 0 ⟨[(0, .one (.c (.ptr 0 0)))], [], [(0, [.d (.bool w__0), .d (.int .u64 w__1), .d (.int .u64 w__2), .d (.int .u64 w__3), .d (.int .u64 w__4), .d (.int .u64 w__5)])], 1⟩ _
  refine At.step hm ht ⟨[], [], [], [0], [0]⟩ 1 ⟨[(0, .one (.c (.ptr 0 0)))], [], [(0, [.d (.bool w__0), .d (.int .u64 w__1), .d (.int .u64 w__2), .d (.int .u64 w__3), .d (.int .u64 w__4), .d (.int .u64 w__5)])], 1⟩ [] (by kernel_rfl) trivial ?_
  refine At.step hm ht ⟨[], [], [], [0, 3], [0]⟩ 2 ⟨[(0, .one (.c (.ptr 0 0))), (3, .one (.c (.d (.int .i64 0))))], [], [(0, [.d (.bool w__0), .d (.int .u64 w__1), .d (.int .u64 w__2), .d (.int .u64 w__3), .d (.int .u64 w__4), .d (.int .u64 w__5)])], 1⟩ [] (by kernel_rfl) trivial ?_
  refine At.step hm ht ⟨[], [], [], [3, 9, 10], [0]⟩ 3 ⟨[(3, .one (.c (.d (.int .i64 0)))), (9, .one (.agg [.d (.int .u64 w__2), .d (.int .u64 w__3), .d (.int .u64 w__4), .d (.int .u64 w__5)])), (10, .one (.c (.d (.int .i64 0))))], [], [(0, [.d (.bool w__0), .d (.int .u64 w__1), .d (.int .u64 w__2), .d (.int .u64 w__3), .d (.int .u64 w__4), .d (.int .u64 w__5)])], 1⟩ [] (by kernel_rfl) trivial ?_
  obtain ⟨w126, cw126, h⟩ := bindS h
  refine f38_replay_Window_Many_L3_ok n 0 w__2 w__3 w__4 w__5 0 w__0 w__1 w__2 w__3 w__4 w__5 w126 cw126 _ ?_
  show At Go.Proofs.Try.prog Go.Proofs.Try.f38 1 7 ⟨[(3, .one (.c (.d (.int .i64 w126.1))))], [], [(0, [.d (.bool w126.2.1), .d (.int .u64 w126.2.2.1), .d (.int .u64 w126.2.2.2.1), .d (.int .u64 w126.2.2.2.2.1), .d (.int .u64 w126.2.2.2.2.2.1), .d (.int .u64 w126.2.2.2.2.2.2)])], 1⟩ _
  have h := Option.some.inj h
  subst h
  exact At.fin hm ht ⟨[], [], [], [2], [0]⟩ [] (by kernel_rfl) trivial
/-! brougham/broughamlaw41.alive -/
def f27_broughamlaw41_alive_in : Inn := ⟨[], [], [], 0⟩
def f27_broughamlaw41_alive_out (r : Bool) : Out := ⟨.one (.c (.d (.bool r))), [], [], 0⟩
def f27_broughamlaw41_alive (n : Nat) : Option (Bool) :=
  (f26_replay_Window_Take n 5 false 0 0 0 0 0).bind fun r109_0 =>
  (f26_replay_Window_Take n 5 r109_0.2.1 r109_0.2.2.1 r109_0.2.2.2.1 r109_0.2.2.2.2.1 r109_0.2.2.2.2.2.1 r109_0.2.2.2.2.2.2).bind fun r109_1 =>
  (f26_replay_Window_Take n 300 r109_1.2.1 r109_1.2.2.1 r109_1.2.2.2.1 r109_1.2.2.2.2.1 r109_1.2.2.2.2.2.1 r109_1.2.2.2.2.2.2).bind fun r109_2 =>
  (f26_replay_Window_Take n 5 r109_2.2.1 r109_2.2.2.1 r109_2.2.2.2.1 r109_2.2.2.2.2.1 r109_2.2.2.2.2.2.1 r109_2.2.2.2.2.2.2).bind fun r109_3 =>
  (f26_replay_Window_Take n 45 r109_3.2.1 r109_3.2.2.1 r109_3.2.2.2.1 r109_3.2.2.2.2.1 r109_3.2.2.2.2.2.1 r109_3.2.2.2.2.2.2).bind fun r109_4 =>
  if r109_0.1 = true then
    if (!r109_1.1) = true then
      if r109_2.1 = true then
        if (!r109_3.1) = true then
          if r109_4.1 = true then
            (f38_replay_Window_Many n r109_4.2.1 r109_4.2.2.1 r109_4.2.2.2.1 r109_4.2.2.2.2.1 r109_4.2.2.2.2.2.1 r109_4.2.2.2.2.2.2).bind fun r110_0 =>
            if ((r110_0.1 : Int) == 2) = true then
              some true
            else
              some false
          else
            some false
        else
          some false
      else
        some false
    else
      some false
  else
    some false
theorem f27_broughamlaw41_alive_ok (n : Nat) (r : Bool) (h : f27_broughamlaw41_alive n = some r) : FnOK Go.Proofs.Try.prog 27 (f27_broughamlaw41_alive_in) (f27_broughamlaw41_alive_out r) := by
  unfold f27_broughamlaw41_alive at h
  refine At.fn (r := 0) Go.Proofs.Try.func27 rfl (by kernel_rfl) rfl rfl (by kernel_rfl) ?_
  show At Go.Proofs.Try.prog Go.Proofs.Try.f27 0 0 ⟨[], [], [], 0⟩ _
  refine At.step hm ht ⟨[], [], [], [], []⟩ 1 ⟨[], [], [], 0⟩ [] (by kernel_rfl) trivial ?_
  refine At.step hm ht ⟨[], [], [], [1], [1]⟩ 2 ⟨[(1, .one (.c (.ptr 0 0)))], [], [(0, [.d (.bool false), .d (.int .u64 0), .d (.int .u64 0), .d (.int .u64 0), .d (.int .u64 0), .d (.int .u64 0)])], 1⟩ [0 + 6 ≤ 6] (by kernel_rfl) ⟨(by decide), trivial⟩ ?_
  obtain ⟨r109_0, cr109_0, h⟩ := bindS h
  obtain ⟨r109_1, cr109_1, h⟩ := bindS h
  obtain ⟨r109_2, cr109_2, h⟩ := bindS h
  obtain ⟨r109_3, cr109_3, h⟩ := bindS h
  obtain ⟨r109_4, cr109_4, h⟩ := bindS h
  refine At.step hm ht ⟨[(0, .call [0] [] (f26_replay_Window_Take_out r109_0)), (1, .call [0] [] (f26_replay_Window_Take_out r109_1)), (2, .call [0] [] (f26_replay_Window_Take_out r109_2)), (3, .call [0] [] (f26_replay_Window_Take_out r109_3)), (4, .call [0] [] (f26_replay_Window_Take_out r109_4))], [], [], [1, 2, 3, 4, 5, 6], [0]⟩ 3 ⟨[(1, .one (.c (.ptr 0 0))), (2, .one (.c (.d (.bool r109_0.1)))), (3, .one (.c (.d (.bool r109_1.1)))), (4, .one (.c (.d (.bool r109_2.1)))), (5, .one (.c (.d (.bool r109_3.1)))), (6, .one (.c (.d (.bool r109_4.1))))], [], [(0, [.d (.bool r109_4.2.1), .d (.int .u64 r109_4.2.2.1), .d (.int .u64 r109_4.2.2.2.1), .d (.int .u64 r109_4.2.2.2.2.1), .d (.int .u64 r109_4.2.2.2.2.2.1), .d (.int .u64 r109_4.2.2.2.2.2.2)])], 1⟩ [FnOK Go.Proofs.Try.prog 26 (f26_replay_Window_Take_in 5 false 0 0 0 0 0) (f26_replay_Window_Take_out r109_0), FnOK Go.Proofs.Try.prog 26 (f26_replay_Window_Take_in 5 r109_0.2.1 r109_0.2.2.1 r109_0.2.2.2.1 r109_0.2.2.2.2.1 r109_0.2.2.2.2.2.1 r109_0.2.2.2.2.2.2) (f26_replay_Window_Take_out r109_1), FnOK Go.Proofs.Try.prog 26 (f26_replay_Window_Take_in 300 r109_1.2.1 r109_1.2.2.1 r109_1.2.2.2.1 r109_1.2.2.2.2.1 r109_1.2.2.2.2.2.1 r109_1.2.2.2.2.2.2) (f26_replay_Window_Take_out r109_2), FnOK Go.Proofs.Try.prog 26 (f26_replay_Window_Take_in 5 r109_2.2.1 r109_2.2.2.1 r109_2.2.2.2.1 r109_2.2.2.2.2.1 r109_2.2.2.2.2.2.1 r109_2.2.2.2.2.2.2) (f26_replay_Window_Take_out r109_3), FnOK Go.Proofs.Try.prog 26 (f26_replay_Window_Take_in 45 r109_3.2.1 r109_3.2.2.1 r109_3.2.2.2.1 r109_3.2.2.2.2.1 r109_3.2.2.2.2.2.1 r109_3.2.2.2.2.2.2) (f26_replay_Window_Take_out r109_4)] (by kernel_rfl) ⟨(f26_replay_Window_Take_ok n 5 false 0 0 0 0 0 r109_0 cr109_0), (f26_replay_Window_Take_ok n 5 r109_0.2.1 r109_0.2.2.1 r109_0.2.2.2.1 r109_0.2.2.2.2.1 r109_0.2.2.2.2.2.1 r109_0.2.2.2.2.2.2 r109_1 cr109_1), (f26_replay_Window_Take_ok n 300 r109_1.2.1 r109_1.2.2.1 r109_1.2.2.2.1 r109_1.2.2.2.2.1 r109_1.2.2.2.2.2.1 r109_1.2.2.2.2.2.2 r109_2 cr109_2), (f26_replay_Window_Take_ok n 5 r109_2.2.1 r109_2.2.2.1 r109_2.2.2.2.1 r109_2.2.2.2.2.1 r109_2.2.2.2.2.2.1 r109_2.2.2.2.2.2.2 r109_3 cr109_3), (f26_replay_Window_Take_ok n 45 r109_3.2.1 r109_3.2.2.1 r109_3.2.2.2.1 r109_3.2.2.2.2.1 r109_3.2.2.2.2.2.1 r109_3.2.2.2.2.2.2 r109_4 cr109_4), trivial⟩ ?_
  rcases iteS h with ⟨b110_1, h⟩ | ⟨b110_1, h⟩
  · rcases iteS h with ⟨b110_5, h⟩ | ⟨b110_5, h⟩
    · rcases iteS h with ⟨b110_8, h⟩ | ⟨b110_8, h⟩
      · rcases iteS h with ⟨b110_12, h⟩ | ⟨b110_12, h⟩
        · rcases iteS h with ⟨b110_15, h⟩ | ⟨b110_15, h⟩
          · obtain ⟨r110_0, cr110_0, h⟩ := bindS h
            rcases iteS h with ⟨b110_19, h⟩ | ⟨b110_19, h⟩
            · have h := Option.some.inj h
              subst h
              exact At.fin hm ht ⟨[(1, .b true), (5, .b true), (8, .b true), (12, .b true), (15, .b true), (16, .call [0] [] (f38_replay_Window_Many_out r110_0)), (19, .b true)], [], [], [0], []⟩ [r109_0.1 = true, (!r109_1.1) = true, r109_2.1 = true, (!r109_3.1) = true, r109_4.1 = true, FnOK Go.Proofs.Try.prog 38 (f38_replay_Window_Many_in r109_4.2.1 r109_4.2.2.1 r109_4.2.2.2.1 r109_4.2.2.2.2.1 r109_4.2.2.2.2.2.1 r109_4.2.2.2.2.2.2) (f38_replay_Window_Many_out r110_0), ((r110_0.1 : Int) == 2) = true] (by kernel_rfl) ⟨b110_1, b110_5, b110_8, b110_12, b110_15, (f38_replay_Window_Many_ok n r109_4.2.1 r109_4.2.2.1 r109_4.2.2.2.1 r109_4.2.2.2.2.1 r109_4.2.2.2.2.2.1 r109_4.2.2.2.2.2.2 r110_0 cr110_0), b110_19, trivial⟩
            · have h := Option.some.inj h
              subst h
              exact At.fin hm ht ⟨[(1, .b true), (5, .b true), (8, .b true), (12, .b true), (15, .b true), (16, .call [0] [] (f38_replay_Window_Many_out r110_0)), (19, .b false)], [], [], [0], []⟩ [r109_0.1 = true, (!r109_1.1) = true, r109_2.1 = true, (!r109_3.1) = true, r109_4.1 = true, FnOK Go.Proofs.Try.prog 38 (f38_replay_Window_Many_in r109_4.2.1 r109_4.2.2.1 r109_4.2.2.2.1 r109_4.2.2.2.2.1 r109_4.2.2.2.2.2.1 r109_4.2.2.2.2.2.2) (f38_replay_Window_Many_out r110_0), ((r110_0.1 : Int) == 2) = false] (by kernel_rfl) ⟨b110_1, b110_5, b110_8, b110_12, b110_15, (f38_replay_Window_Many_ok n r109_4.2.1 r109_4.2.2.1 r109_4.2.2.2.1 r109_4.2.2.2.2.1 r109_4.2.2.2.2.2.1 r109_4.2.2.2.2.2.2 r110_0 cr110_0), b110_19, trivial⟩
          · have h := Option.some.inj h
            subst h
            exact At.fin hm ht ⟨[(1, .b true), (5, .b true), (8, .b true), (12, .b true), (15, .b false)], [], [], [0], []⟩ [r109_0.1 = true, (!r109_1.1) = true, r109_2.1 = true, (!r109_3.1) = true, r109_4.1 = false] (by kernel_rfl) ⟨b110_1, b110_5, b110_8, b110_12, b110_15, trivial⟩
        · have h := Option.some.inj h
          subst h
          exact At.fin hm ht ⟨[(1, .b true), (5, .b true), (8, .b true), (12, .b false)], [], [], [0], []⟩ [r109_0.1 = true, (!r109_1.1) = true, r109_2.1 = true, (!r109_3.1) = false] (by kernel_rfl) ⟨b110_1, b110_5, b110_8, b110_12, trivial⟩
      · have h := Option.some.inj h
        subst h
        exact At.fin hm ht ⟨[(1, .b true), (5, .b true), (8, .b false)], [], [], [0], []⟩ [r109_0.1 = true, (!r109_1.1) = true, r109_2.1 = false] (by kernel_rfl) ⟨b110_1, b110_5, b110_8, trivial⟩
    · have h := Option.some.inj h
      subst h
      exact At.fin hm ht ⟨[(1, .b true), (5, .b false)], [], [], [0], []⟩ [r109_0.1 = true, (!r109_1.1) = false] (by kernel_rfl) ⟨b110_1, b110_5, trivial⟩
  · have h := Option.some.inj h
    subst h
    exact At.fin hm ht ⟨[(1, .b false)], [], [], [0], []⟩ [r109_0.1 = false] (by kernel_rfl) ⟨b110_1, trivial⟩
/-! brougham/broughamlaw41.ReplayOnce -/
def f7_broughamlaw41_ReplayOnce_in (l : List Int) : Inn := ⟨[.c (.d (.sl (.int .u64) l))], [], [], 0⟩
def f7_broughamlaw41_ReplayOnce_out (r : Bool) : Out := ⟨.one (.c (.d (.bool r))), [], [], 0⟩
def f7_broughamlaw41_ReplayOnce_L10 : Nat → (List Int) → (List Int) → Int → Bool → Int → Bool → Int → Int → Int → Int → Int → Option (List Int × List Int × Int × Bool × Bool × Int × Int × Int × Int × Int)
  | 0, _, _, _, _, _, _, _, _, _, _, _ => none
  | n + 1, l, through, i, above, k, w__0, w__1, w__2, w__3, w__4, w__5 =>
    if (decide ((k : Int) < i)) = true then
      if above = true then
        if (0 : Int) ≤ k ∧ k < (((l).length : Nat) : Int) then
        if (0 : Int) ≤ i ∧ i < (((l).length : Nat) : Int) then
        f7_broughamlaw41_ReplayOnce_L10 n l through i (decide (((l.getD k.toNat 0) : Int) < (l.getD i.toNat 0))) (IntKind.wrap .i64 (k + 1)) w__0 w__1 w__2 w__3 w__4 w__5
        else none
        else none
      else
        f7_broughamlaw41_ReplayOnce_L10 n l through i false (IntKind.wrap .i64 (k + 1)) w__0 w__1 w__2 w__3 w__4 w__5
    else
      some ((l, through, i, above, w__0, w__1, w__2, w__3, w__4, w__5))
def f7_broughamlaw41_ReplayOnce_L10_k (e : List Int × List Int × Int × Bool × Bool × Int × Int × Int × Int × Int) (o : Out) : Prop := At Go.Proofs.Try.prog Go.Proofs.Try.f7 0 13 ⟨[(0, .one (.c (.d (.sl (.int .u64) e.1)))), (3, .one (.c (.ptr 0 0))), (4, .one (.c (.own 1 (.int .u64) e.2.1))), (5, .one (.c (.d (.int .i64 e.2.2.1)))), (6, .one (.c (.d (.bool e.2.2.2.1))))], [(1, some ⟨49, 0⟩)], [(0, [.d (.bool e.2.2.2.2.1), .d (.int .u64 e.2.2.2.2.2.1), .d (.int .u64 e.2.2.2.2.2.2.1), .d (.int .u64 e.2.2.2.2.2.2.2.1), .d (.int .u64 e.2.2.2.2.2.2.2.2.1), .d (.int .u64 e.2.2.2.2.2.2.2.2.2)])], 2⟩ o
theorem f7_broughamlaw41_ReplayOnce_L10_ok (n : Nat) : ∀ (l : List Int) (through : List Int) (i : Int) (above : Bool) (k : Int) (w__0 : Bool) (w__1 : Int) (w__2 : Int) (w__3 : Int) (w__4 : Int) (w__5 : Int) (w : List Int × List Int × Int × Bool × Bool × Int × Int × Int × Int × Int) (h : f7_broughamlaw41_ReplayOnce_L10 n l through i above k w__0 w__1 w__2 w__3 w__4 w__5 = some w) (o : Out) (hk : f7_broughamlaw41_ReplayOnce_L10_k w o), At Go.Proofs.Try.prog Go.Proofs.Try.f7 0 10 ⟨[(0, .one (.c (.d (.sl (.int .u64) l)))), (3, .one (.c (.ptr 0 0))), (4, .one (.c (.own 1 (.int .u64) through))), (5, .one (.c (.d (.int .i64 i)))), (6, .one (.c (.d (.bool above)))), (7, .one (.c (.d (.int .i64 k))))], [(1, some ⟨49, 0⟩)], [(0, [.d (.bool w__0), .d (.int .u64 w__1), .d (.int .u64 w__2), .d (.int .u64 w__3), .d (.int .u64 w__4), .d (.int .u64 w__5)])], 2⟩ o := by
  induction n with
  | zero => intro l through i above k w__0 w__1 w__2 w__3 w__4 w__5 w h; rw [f7_broughamlaw41_ReplayOnce_L10] at h; cases h
  | succ n ih =>
    intro l through i above k w__0 w__1 w__2 w__3 w__4 w__5 w h o hk
    rw [f7_broughamlaw41_ReplayOnce_L10] at h
    rcases iteS h with ⟨b74_e0, h⟩ | ⟨b74_e0, h⟩
    · refine At.step hm ht ⟨[], [true], [], [0, 3, 4, 5, 6, 7], [0, 1]⟩ 12 ⟨[(0, .one (.c (.d (.sl (.int .u64) l)))), (3, .one (.c (.ptr 0 0))), (4, .one (.c (.own 1 (.int .u64) through))), (5, .one (.c (.d (.int .i64 i)))), (6, .one (.c (.d (.bool above)))), (7, .one (.c (.d (.int .i64 k))))], [(1, some ⟨49, 0⟩)], [(0, [.d (.bool w__0), .d (.int .u64 w__1), .d (.int .u64 w__2), .d (.int .u64 w__3), .d (.int .u64 w__4), .d (.int .u64 w__5)])], 2⟩ [(decide ((k : Int) < i)) = true] (by kernel_rfl) ⟨b74_e0, trivial⟩ ?_
      rcases iteS h with ⟨b75_1, h⟩ | ⟨b75_1, h⟩
      · obtain ⟨g75_0, h⟩ := ifS h
        obtain ⟨g75_1, h⟩ := ifS h
        refine At.step hm ht ⟨[(1, .b true)], [], [], [0, 3, 4, 5, 6, 7], [0, 1]⟩ 11 ⟨[(0, .one (.c (.d (.sl (.int .u64) l)))), (3, .one (.c (.ptr 0 0))), (4, .one (.c (.own 1 (.int .u64) through))), (5, .one (.c (.d (.int .i64 i)))), (6, .one (.c (.d (.bool (decide (((l.getD k.toNat 0) : Int) < (l.getD i.toNat 0))))))), (7, .one (.c (.d (.int .i64 k))))], [(1, some ⟨49, 0⟩)], [(0, [.d (.bool w__0), .d (.int .u64 w__1), .d (.int .u64 w__2), .d (.int .u64 w__3), .d (.int .u64 w__4), .d (.int .u64 w__5)])], 2⟩ [above = true, (0 : Int) ≤ k ∧ k < (((l).length : Nat) : Int), (0 : Int) ≤ i ∧ i < (((l).length : Nat) : Int)] (by kernel_rfl) ⟨b75_1, g75_0, g75_1, trivial⟩ ?_
        refine At.step hm ht ⟨[], [], [], [0, 3, 4, 5, 6, 7], [0, 1]⟩ 10 ⟨[(0, .one (.c (.d (.sl (.int .u64) l)))), (3, .one (.c (.ptr 0 0))), (4, .one (.c (.own 1 (.int .u64) through))), (5, .one (.c (.d (.int .i64 i)))), (6, .one (.c (.d (.bool (decide (((l.getD k.toNat 0) : Int) < (l.getD i.toNat 0))))))), (7, .one (.c (.d (.int .i64 (IntKind.wrap .i64 (k + 1))))))], [(1, some ⟨49, 0⟩)], [(0, [.d (.bool w__0), .d (.int .u64 w__1), .d (.int .u64 w__2), .d (.int .u64 w__3), .d (.int .u64 w__4), .d (.int .u64 w__5)])], 2⟩ [] (by kernel_rfl) trivial ?_
        exact ih l through i (decide (((l.getD k.toNat 0) : Int) < (l.getD i.toNat 0))) (IntKind.wrap .i64 (k + 1)) w__0 w__1 w__2 w__3 w__4 w__5 w h o hk
      · refine At.step hm ht ⟨[(1, .b false)], [], [], [0, 3, 4, 5, 6, 7], [0, 1]⟩ 11 ⟨[(0, .one (.c (.d (.sl (.int .u64) l)))), (3, .one (.c (.ptr 0 0))), (4, .one (.c (.own 1 (.int .u64) through))), (5, .one (.c (.d (.int .i64 i)))), (6, .one (.c (.d (.bool false)))), (7, .one (.c (.d (.int .i64 k))))], [(1, some ⟨49, 0⟩)], [(0, [.d (.bool w__0), .d (.int .u64 w__1), .d (.int .u64 w__2), .d (.int .u64 w__3), .d (.int .u64 w__4), .d (.int .u64 w__5)])], 2⟩ [above = false] (by kernel_rfl) ⟨b75_1, trivial⟩ ?_
        refine At.step hm ht ⟨[], [], [], [0, 3, 4, 5, 6, 7], [0, 1]⟩ 10 ⟨[(0, .one (.c (.d (.sl (.int .u64) l)))), (3, .one (.c (.ptr 0 0))), (4, .one (.c (.own 1 (.int .u64) through))), (5, .one (.c (.d (.int .i64 i)))), (6, .one (.c (.d (.bool false)))), (7, .one (.c (.d (.int .i64 (IntKind.wrap .i64 (k + 1))))))], [(1, some ⟨49, 0⟩)], [(0, [.d (.bool w__0), .d (.int .u64 w__1), .d (.int .u64 w__2), .d (.int .u64 w__3), .d (.int .u64 w__4), .d (.int .u64 w__5)])], 2⟩ [] (by kernel_rfl) trivial ?_
        exact ih l through i false (IntKind.wrap .i64 (k + 1)) w__0 w__1 w__2 w__3 w__4 w__5 w h o hk
    · refine At.step hm ht ⟨[], [false], [], [0, 3, 4, 5, 6], [0, 1]⟩ 13 ⟨[(0, .one (.c (.d (.sl (.int .u64) l)))), (3, .one (.c (.ptr 0 0))), (4, .one (.c (.own 1 (.int .u64) through))), (5, .one (.c (.d (.int .i64 i)))), (6, .one (.c (.d (.bool above))))], [(1, some ⟨49, 0⟩)], [(0, [.d (.bool w__0), .d (.int .u64 w__1), .d (.int .u64 w__2), .d (.int .u64 w__3), .d (.int .u64 w__4), .d (.int .u64 w__5)])], 2⟩ [(decide ((k : Int) < i)) = false] (by kernel_rfl) ⟨b74_e0, trivial⟩ ?_
      have h := Option.some.inj h
      subst h
      exact hk
def f7_broughamlaw41_ReplayOnce_L18 : Nat → (List Int) → (List Int) → Int → Int → Bool → Int → Int → Int → Int → Int → Option ((Bool) ⊕ (List Int × List Int × Int × Bool × Int × Int × Int × Int × Int))
  | 0, _, _, _, _, _, _, _, _, _, _ => none
  | n + 1, l, through, i, k, w__0, w__1, w__2, w__3, w__4, w__5 =>
    if (decide ((k : Int) < ((through.length : Nat) : Int))) = true then
      if (0 : Int) ≤ k ∧ k < (((through).length : Nat) : Int) then
      if (0 : Int) ≤ i ∧ i < (((l).length : Nat) : Int) then
      if (((through.getD k.toNat 0) : Int) == (l.getD i.toNat 0)) = true then
        some (.inl false)
      else
        f7_broughamlaw41_ReplayOnce_L18 n l through i (IntKind.wrap .i64 (k + 1)) w__0 w__1 w__2 w__3 w__4 w__5
      else none
      else none
    else
      some (.inr ((l, through, i, w__0, w__1, w__2, w__3, w__4, w__5)))
def f7_broughamlaw41_ReplayOnce_L18_k (w : (Bool) ⊕ (List Int × List Int × Int × Bool × Int × Int × Int × Int × Int)) (o : Out) : Prop := match w with
  | .inl e => o = f7_broughamlaw41_ReplayOnce_out e
  | .inr e => At Go.Proofs.Try.prog Go.Proofs.Try.f7 0 22 ⟨[(0, .one (.c (.d (.sl (.int .u64) e.1)))), (3, .one (.c (.ptr 0 0))), (4, .one (.c (.own 1 (.int .u64) e.2.1))), (5, .one (.c (.d (.int .i64 e.2.2.1))))], [(1, some ⟨49, 0⟩)], [(0, [.d (.bool e.2.2.2.1), .d (.int .u64 e.2.2.2.2.1), .d (.int .u64 e.2.2.2.2.2.1), .d (.int .u64 e.2.2.2.2.2.2.1), .d (.int .u64 e.2.2.2.2.2.2.2.1), .d (.int .u64 e.2.2.2.2.2.2.2.2)])], 2⟩ o
theorem f7_broughamlaw41_ReplayOnce_L18_ok (n : Nat) : ∀ (l : List Int) (through : List Int) (i : Int) (k : Int) (w__0 : Bool) (w__1 : Int) (w__2 : Int) (w__3 : Int) (w__4 : Int) (w__5 : Int) (w : (Bool) ⊕ (List Int × List Int × Int × Bool × Int × Int × Int × Int × Int)) (h : f7_broughamlaw41_ReplayOnce_L18 n l through i k w__0 w__1 w__2 w__3 w__4 w__5 = some w) (o : Out) (hk : f7_broughamlaw41_ReplayOnce_L18_k w o), At Go.Proofs.Try.prog Go.Proofs.Try.f7 0 18 ⟨[(0, .one (.c (.d (.sl (.int .u64) l)))), (3, .one (.c (.ptr 0 0))), (4, .one (.c (.own 1 (.int .u64) through))), (5, .one (.c (.d (.int .i64 i)))), (9, .one (.c (.d (.int .i64 k))))], [(1, some ⟨49, 0⟩)], [(0, [.d (.bool w__0), .d (.int .u64 w__1), .d (.int .u64 w__2), .d (.int .u64 w__3), .d (.int .u64 w__4), .d (.int .u64 w__5)])], 2⟩ o := by
  induction n with
  | zero => intro l through i k w__0 w__1 w__2 w__3 w__4 w__5 w h; rw [f7_broughamlaw41_ReplayOnce_L18] at h; cases h
  | succ n ih =>
    intro l through i k w__0 w__1 w__2 w__3 w__4 w__5 w h o hk
    rw [f7_broughamlaw41_ReplayOnce_L18] at h
    rcases iteS h with ⟨b86_e0, h⟩ | ⟨b86_e0, h⟩
    · refine At.step hm ht ⟨[], [true], [], [0, 3, 4, 5, 9], [0, 1]⟩ 20 ⟨[(0, .one (.c (.d (.sl (.int .u64) l)))), (3, .one (.c (.ptr 0 0))), (4, .one (.c (.own 1 (.int .u64) through))), (5, .one (.c (.d (.int .i64 i)))), (9, .one (.c (.d (.int .i64 k))))], [(1, some ⟨49, 0⟩)], [(0, [.d (.bool w__0), .d (.int .u64 w__1), .d (.int .u64 w__2), .d (.int .u64 w__3), .d (.int .u64 w__4), .d (.int .u64 w__5)])], 2⟩ [(decide ((k : Int) < ((through.length : Nat) : Int))) = true] (by kernel_rfl) ⟨b86_e0, trivial⟩ ?_
      obtain ⟨g87_0, h⟩ := ifS h
      obtain ⟨g87_1, h⟩ := ifS h
      rcases iteS h with ⟨b87_e0, h⟩ | ⟨b87_e0, h⟩
      · refine At.step hm ht ⟨[], [true], [], [], []⟩ 21 ⟨[], [], [], 0⟩ [(0 : Int) ≤ k ∧ k < (((through).length : Nat) : Int), (0 : Int) ≤ i ∧ i < (((l).length : Nat) : Int), (((through.getD k.toNat 0) : Int) == (l.getD i.toNat 0)) = true] (by kernel_rfl) ⟨g87_0, g87_1, b87_e0, trivial⟩ ?_
        have h := Option.some.inj h
        subst h
        have hk : o = f7_broughamlaw41_ReplayOnce_out false := hk
        subst hk
        exact At.fin hm ht ⟨[], [], [], [2], []⟩ [] (by kernel_rfl) trivial
      · refine At.step hm ht ⟨[], [false], [], [0, 3, 4, 5, 9], [0, 1]⟩ 19 ⟨[(0, .one (.c (.d (.sl (.int .u64) l)))), (3, .one (.c (.ptr 0 0))), (4, .one (.c (.own 1 (.int .u64) through))), (5, .one (.c (.d (.int .i64 i)))), (9, .one (.c (.d (.int .i64 k))))], [(1, some ⟨49, 0⟩)], [(0, [.d (.bool w__0), .d (.int .u64 w__1), .d (.int .u64 w__2), .d (.int .u64 w__3), .d (.int .u64 w__4), .d (.int .u64 w__5)])], 2⟩ [(0 : Int) ≤ k ∧ k < (((through).length : Nat) : Int), (0 : Int) ≤ i ∧ i < (((l).length : Nat) : Int), (((through.getD k.toNat 0) : Int) == (l.getD i.toNat 0)) = false] (by kernel_rfl) ⟨g87_0, g87_1, b87_e0, trivial⟩ ?_
        refine At.step hm ht ⟨[], [], [], [0, 3, 4, 5, 9], [0, 1]⟩ 18 ⟨[(0, .one (.c (.d (.sl (.int .u64) l)))), (3, .one (.c (.ptr 0 0))), (4, .one (.c (.own 1 (.int .u64) through))), (5, .one (.c (.d (.int .i64 i)))), (9, .one (.c (.d (.int .i64 (IntKind.wrap .i64 (k + 1))))))], [(1, some ⟨49, 0⟩)], [(0, [.d (.bool w__0), .d (.int .u64 w__1), .d (.int .u64 w__2), .d (.int .u64 w__3), .d (.int .u64 w__4), .d (.int .u64 w__5)])], 2⟩ [] (by kernel_rfl) trivial ?_
        exact ih l through i (IntKind.wrap .i64 (k + 1)) w__0 w__1 w__2 w__3 w__4 w__5 w h o hk
    · refine At.step hm ht ⟨[], [false], [], [0, 3, 4, 5], [0, 1]⟩ 22 ⟨[(0, .one (.c (.d (.sl (.int .u64) l)))), (3, .one (.c (.ptr 0 0))), (4, .one (.c (.own 1 (.int .u64) through))), (5, .one (.c (.d (.int .i64 i))))], [(1, some ⟨49, 0⟩)], [(0, [.d (.bool w__0), .d (.int .u64 w__1), .d (.int .u64 w__2), .d (.int .u64 w__3), .d (.int .u64 w__4), .d (.int .u64 w__5)])], 2⟩ [(decide ((k : Int) < ((through.length : Nat) : Int))) = false] (by kernel_rfl) ⟨b86_e0, trivial⟩ ?_
      have h := Option.some.inj h
      subst h
      exact hk
def f7_broughamlaw41_ReplayOnce_L6 : Nat → (List Int) → (List Int) → Int → Bool → Int → Int → Int → Int → Int → Option ((Bool) ⊕ (Unit))
  | 0, _, _, _, _, _, _, _, _, _ => none
  | n + 1, l, through, i, w__0, w__1, w__2, w__3, w__4, w__5 =>
    if (decide ((i : Int) < ((l.length : Nat) : Int))) = true then
      (f7_broughamlaw41_ReplayOnce_L10 n l through i true 0 w__0 w__1 w__2 w__3 w__4 w__5).bind fun w78 =>
      if (0 : Int) ≤ w78.2.2.1 ∧ w78.2.2.1 < (((w78.1).length : Nat) : Int) then
      (f26_replay_Window_Take n (w78.1.getD w78.2.2.1.toNat 0) w78.2.2.2.2.1 w78.2.2.2.2.2.1 w78.2.2.2.2.2.2.1 w78.2.2.2.2.2.2.2.1 w78.2.2.2.2.2.2.2.2.1 w78.2.2.2.2.2.2.2.2.2).bind fun r80_1 =>
      if w78.2.2.2.1 = true then
        if (!r80_1.1) = true then
          some (.inl false)
        else
          if (!r80_1.1) = true then
            f7_broughamlaw41_ReplayOnce_L6 n w78.1 w78.2.1 (IntKind.wrap .i64 (w78.2.2.1 + 1)) r80_1.2.1 r80_1.2.2.1 r80_1.2.2.2.1 r80_1.2.2.2.2.1 r80_1.2.2.2.2.2.1 r80_1.2.2.2.2.2.2
          else
            (f7_broughamlaw41_ReplayOnce_L18 n w78.1 w78.2.1 w78.2.2.1 0 r80_1.2.1 r80_1.2.2.1 r80_1.2.2.2.1 r80_1.2.2.2.2.1 r80_1.2.2.2.2.2.1 r80_1.2.2.2.2.2.2).bind fun w90 =>
            match w90 with
            | .inl e91 =>
              some (.inl e91)
            | .inr e92 =>
              if (0 : Int) ≤ e92.2.2.1 ∧ e92.2.2.1 < (((e92.1).length : Nat) : Int) then
              if e92.2.1.length + [(e92.1.getD e92.2.2.1.toNat 0)].length ≤ maxLen ∧ (e92.2.1.length + [(e92.1.getD e92.2.2.1.toNat 0)].length) * 8 ≤ 140737488355328 then
              f7_broughamlaw41_ReplayOnce_L6 n e92.1 (e92.2.1 ++ [(e92.1.getD e92.2.2.1.toNat 0)]) (IntKind.wrap .i64 (e92.2.2.1 + 1)) e92.2.2.2.1 e92.2.2.2.2.1 e92.2.2.2.2.2.1 e92.2.2.2.2.2.2.1 e92.2.2.2.2.2.2.2.1 e92.2.2.2.2.2.2.2.2
              else none
              else none
      else
        if (!r80_1.1) = true then
          f7_broughamlaw41_ReplayOnce_L6 n w78.1 w78.2.1 (IntKind.wrap .i64 (w78.2.2.1 + 1)) r80_1.2.1 r80_1.2.2.1 r80_1.2.2.2.1 r80_1.2.2.2.2.1 r80_1.2.2.2.2.2.1 r80_1.2.2.2.2.2.2
        else
          (f7_broughamlaw41_ReplayOnce_L18 n w78.1 w78.2.1 w78.2.2.1 0 r80_1.2.1 r80_1.2.2.1 r80_1.2.2.2.1 r80_1.2.2.2.2.1 r80_1.2.2.2.2.2.1 r80_1.2.2.2.2.2.2).bind fun w98 =>
          match w98 with
          | .inl e99 =>
            some (.inl e99)
          | .inr e100 =>
            if (0 : Int) ≤ e100.2.2.1 ∧ e100.2.2.1 < (((e100.1).length : Nat) : Int) then
            if e100.2.1.length + [(e100.1.getD e100.2.2.1.toNat 0)].length ≤ maxLen ∧ (e100.2.1.length + [(e100.1.getD e100.2.2.1.toNat 0)].length) * 8 ≤ 140737488355328 then
            f7_broughamlaw41_ReplayOnce_L6 n e100.1 (e100.2.1 ++ [(e100.1.getD e100.2.2.1.toNat 0)]) (IntKind.wrap .i64 (e100.2.2.1 + 1)) e100.2.2.2.1 e100.2.2.2.2.1 e100.2.2.2.2.2.1 e100.2.2.2.2.2.2.1 e100.2.2.2.2.2.2.2.1 e100.2.2.2.2.2.2.2.2
            else none
            else none
      else none
    else
      some (.inr ())
def f7_broughamlaw41_ReplayOnce_L6_k (w : (Bool) ⊕ (Unit)) (o : Out) : Prop := match w with
  | .inl e => o = f7_broughamlaw41_ReplayOnce_out e
  | .inr e => At Go.Proofs.Try.prog Go.Proofs.Try.f7 0 23 ⟨[], [], [], 0⟩ o
theorem f7_broughamlaw41_ReplayOnce_L6_ok (n : Nat) : ∀ (l : List Int) (through : List Int) (i : Int) (w__0 : Bool) (w__1 : Int) (w__2 : Int) (w__3 : Int) (w__4 : Int) (w__5 : Int) (w : (Bool) ⊕ (Unit)) (h : f7_broughamlaw41_ReplayOnce_L6 n l through i w__0 w__1 w__2 w__3 w__4 w__5 = some w) (o : Out) (hk : f7_broughamlaw41_ReplayOnce_L6_k w o), At Go.Proofs.Try.prog Go.Proofs.Try.f7 0 6 ⟨[(0, .one (.c (.d (.sl (.int .u64) l)))), (3, .one (.c (.ptr 0 0))), (4, .one (.c (.own 1 (.int .u64) through))), (5, .one (.c (.d (.int .i64 i))))], [(1, some ⟨49, 0⟩)], [(0, [.d (.bool w__0), .d (.int .u64 w__1), .d (.int .u64 w__2), .d (.int .u64 w__3), .d (.int .u64 w__4), .d (.int .u64 w__5)])], 2⟩ o := by
  induction n with
  | zero => intro l through i w__0 w__1 w__2 w__3 w__4 w__5 w h; rw [f7_broughamlaw41_ReplayOnce_L6] at h; cases h
  | succ n ih =>
    intro l through i w__0 w__1 w__2 w__3 w__4 w__5 w h o hk
    rw [f7_broughamlaw41_ReplayOnce_L6] at h
    rcases iteS h with ⟨b71_e0, h⟩ | ⟨b71_e0, h⟩
    · refine At.step hm ht ⟨[], [true], [], [0, 3, 4, 5], [0, 1]⟩ 8 ⟨[(0, .one (.c (.d (.sl (.int .u64) l)))), (3, .one (.c (.ptr 0 0))), (4, .one (.c (.own 1 (.int .u64) through))), (5, .one (.c (.d (.int .i64 i))))], [(1, some ⟨49, 0⟩)], [(0, [.d (.bool w__0), .d (.int .u64 w__1), .d (.int .u64 w__2), .d (.int .u64 w__3), .d (.int .u64 w__4), .d (.int .u64 w__5)])], 2⟩ [(decide ((i : Int) < ((l.length : Nat) : Int))) = true] (by kernel_rfl) ⟨b71_e0, trivial⟩ ?_
      refine At.step hm ht ⟨[], [], [], [0, 3, 4, 5, 6], [0, 1]⟩ 9 ⟨[(0, .one (.c (.d (.sl (.int .u64) l)))), (3, .one (.c (.ptr 0 0))), (4, .one (.c (.own 1 (.int .u64) through))), (5, .one (.c (.d (.int .i64 i)))), (6, .one (.c (.d (.bool true))))], [(1, some ⟨49, 0⟩)], [(0, [.d (.bool w__0), .d (.int .u64 w__1), .d (.int .u64 w__2), .d (.int .u64 w__3), .d (.int .u64 w__4), .d (.int .u64 w__5)])], 2⟩ [] (by kernel_rfl) trivial ?_
      refine At.step hm ht ⟨[], [], [], [0, 3, 4, 5, 6, 7], [0, 1]⟩ 10 ⟨[(0, .one (.c (.d (.sl (.int .u64) l)))), (3, .one (.c (.ptr 0 0))), (4, .one (.c (.own 1 (.int .u64) through))), (5, .one (.c (.d (.int .i64 i)))), (6, .one (.c (.d (.bool true)))), (7, .one (.c (.d (.int .i64 0))))], [(1, some ⟨49, 0⟩)], [(0, [.d (.bool w__0), .d (.int .u64 w__1), .d (.int .u64 w__2), .d (.int .u64 w__3), .d (.int .u64 w__4), .d (.int .u64 w__5)])], 2⟩ [] (by kernel_rfl) trivial ?_
      obtain ⟨w78, cw78, h⟩ := bindS h
      refine f7_broughamlaw41_ReplayOnce_L10_ok n l through i true 0 w__0 w__1 w__2 w__3 w__4 w__5 w78 cw78 _ ?_
      show At Go.Proofs.Try.prog Go.Proofs.Try.f7 0 13 ⟨[(0, .one (.c (.d (.sl (.int .u64) w78.1)))), (3, .one (.c (.ptr 0 0))), (4, .one (.c (.own 1 (.int .u64) w78.2.1))), (5, .one (.c (.d (.int .i64 w78.2.2.1)))), (6, .one (.c (.d (.bool w78.2.2.2.1))))], [(1, some ⟨49, 0⟩)], [(0, [.d (.bool w78.2.2.2.2.1), .d (.int .u64 w78.2.2.2.2.2.1), .d (.int .u64 w78.2.2.2.2.2.2.1), .d (.int .u64 w78.2.2.2.2.2.2.2.1), .d (.int .u64 w78.2.2.2.2.2.2.2.2.1), .d (.int .u64 w78.2.2.2.2.2.2.2.2.2)])], 2⟩ _
      obtain ⟨g80_0, h⟩ := ifS h
      obtain ⟨r80_1, cr80_1, h⟩ := bindS h
      refine At.step hm ht ⟨[(4, .call [0] [] (f26_replay_Window_Take_out r80_1))], [], [], [0, 3, 4, 5, 6, 8], [0, 1]⟩ 14 ⟨[(0, .one (.c (.d (.sl (.int .u64) w78.1)))), (3, .one (.c (.ptr 0 0))), (4, .one (.c (.own 1 (.int .u64) w78.2.1))), (5, .one (.c (.d (.int .i64 w78.2.2.1)))), (6, .one (.c (.d (.bool w78.2.2.2.1)))), (8, .one (.c (.d (.bool r80_1.1))))], [(1, some ⟨49, 0⟩)], [(0, [.d (.bool r80_1.2.1), .d (.int .u64 r80_1.2.2.1), .d (.int .u64 r80_1.2.2.2.1), .d (.int .u64 r80_1.2.2.2.2.1), .d (.int .u64 r80_1.2.2.2.2.2.1), .d (.int .u64 r80_1.2.2.2.2.2.2)])], 2⟩ [(0 : Int) ≤ w78.2.2.1 ∧ w78.2.2.1 < (((w78.1).length : Nat) : Int), FnOK Go.Proofs.Try.prog 26 (f26_replay_Window_Take_in (w78.1.getD w78.2.2.1.toNat 0) w78.2.2.2.2.1 w78.2.2.2.2.2.1 w78.2.2.2.2.2.2.1 w78.2.2.2.2.2.2.2.1 w78.2.2.2.2.2.2.2.2.1 w78.2.2.2.2.2.2.2.2.2) (f26_replay_Window_Take_out r80_1)] (by kernel_rfl) ⟨g80_0, (f26_replay_Window_Take_ok n (w78.1.getD w78.2.2.1.toNat 0) w78.2.2.2.2.1 w78.2.2.2.2.2.1 w78.2.2.2.2.2.2.1 w78.2.2.2.2.2.2.2.1 w78.2.2.2.2.2.2.2.2.1 w78.2.2.2.2.2.2.2.2.2 r80_1 cr80_1), trivial⟩ ?_
      rcases iteS h with ⟨b81_1, h⟩ | ⟨b81_1, h⟩
      · rcases iteS h with ⟨b81_e0, h⟩ | ⟨b81_e0, h⟩
        · refine At.step hm ht ⟨[(1, .b true)], [true], [], [], []⟩ 15 ⟨[], [], [], 0⟩ [w78.2.2.2.1 = true, (!r80_1.1) = true] (by kernel_rfl) ⟨b81_1, b81_e0, trivial⟩ ?_
          have h := Option.some.inj h
          subst h
          have hk : o = f7_broughamlaw41_ReplayOnce_out false := hk
          subst hk
          exact At.fin hm ht ⟨[], [], [], [2], []⟩ [] (by kernel_rfl) trivial
        · refine At.step hm ht ⟨[(1, .b true)], [false], [], [0, 3, 4, 5, 8], [0, 1]⟩ 16 ⟨[(0, .one (.c (.d (.sl (.int .u64) w78.1)))), (3, .one (.c (.ptr 0 0))), (4, .one (.c (.own 1 (.int .u64) w78.2.1))), (5, .one (.c (.d (.int .i64 w78.2.2.1)))), (8, .one (.c (.d (.bool r80_1.1))))], [(1, some ⟨49, 0⟩)], [(0, [.d (.bool r80_1.2.1), .d (.int .u64 r80_1.2.2.1), .d (.int .u64 r80_1.2.2.2.1), .d (.int .u64 r80_1.2.2.2.2.1), .d (.int .u64 r80_1.2.2.2.2.2.1), .d (.int .u64 r80_1.2.2.2.2.2.2)])], 2⟩ [w78.2.2.2.1 = true, (!r80_1.1) = false] (by kernel_rfl) ⟨b81_1, b81_e0, trivial⟩ ?_
          rcases iteS h with ⟨b83_e0, h⟩ | ⟨b83_e0, h⟩
          · refine At.step hm ht ⟨[], [true], [], [0, 3, 4, 5], [0, 1]⟩ 7 ⟨[(0, .one (.c (.d (.sl (.int .u64) w78.1)))), (3, .one (.c (.ptr 0 0))), (4, .one (.c (.own 1 (.int .u64) w78.2.1))), (5, .one (.c (.d (.int .i64 w78.2.2.1))))], [(1, some ⟨49, 0⟩)], [(0, [.d (.bool r80_1.2.1), .d (.int .u64 r80_1.2.2.1), .d (.int .u64 r80_1.2.2.2.1), .d (.int .u64 r80_1.2.2.2.2.1), .d (.int .u64 r80_1.2.2.2.2.2.1), .d (.int .u64 r80_1.2.2.2.2.2.2)])], 2⟩ [(!r80_1.1) = true] (by kernel_rfl) ⟨b83_e0, trivial⟩ ?_
            refine At.step hm ht ⟨[], [], [], [0, 3, 4, 5], [0, 1]⟩ 6 ⟨[(0, .one (.c (.d (.sl (.int .u64) w78.1)))), (3, .one (.c (.ptr 0 0))), (4, .one (.c (.own 1 (.int .u64) w78.2.1))), (5, .one (.c (.d (.int .i64 (IntKind.wrap .i64 (w78.2.2.1 + 1))))))], [(1, some ⟨49, 0⟩)], [(0, [.d (.bool r80_1.2.1), .d (.int .u64 r80_1.2.2.1), .d (.int .u64 r80_1.2.2.2.1), .d (.int .u64 r80_1.2.2.2.2.1), .d (.int .u64 r80_1.2.2.2.2.2.1), .d (.int .u64 r80_1.2.2.2.2.2.2)])], 2⟩ [] (by kernel_rfl) trivial ?_
            exact ih w78.1 w78.2.1 (IntKind.wrap .i64 (w78.2.2.1 + 1)) r80_1.2.1 r80_1.2.2.1 r80_1.2.2.2.1 r80_1.2.2.2.2.1 r80_1.2.2.2.2.2.1 r80_1.2.2.2.2.2.2 w h o hk
          · refine At.step hm ht ⟨[], [false], [], [0, 3, 4, 5], [0, 1]⟩ 17 ⟨[(0, .one (.c (.d (.sl (.int .u64) w78.1)))), (3, .one (.c (.ptr 0 0))), (4, .one (.c (.own 1 (.int .u64) w78.2.1))), (5, .one (.c (.d (.int .i64 w78.2.2.1))))], [(1, some ⟨49, 0⟩)], [(0, [.d (.bool r80_1.2.1), .d (.int .u64 r80_1.2.2.1), .d (.int .u64 r80_1.2.2.2.1), .d (.int .u64 r80_1.2.2.2.2.1), .d (.int .u64 r80_1.2.2.2.2.2.1), .d (.int .u64 r80_1.2.2.2.2.2.2)])], 2⟩ [(!r80_1.1) = false] (by kernel_rfl) ⟨b83_e0, trivial⟩ ?_
            refine At.step hm ht ⟨[], [], [], [0, 3, 4, 5, 9], [0, 1]⟩ 18 ⟨[(0, .one (.c (.d (.sl (.int .u64) w78.1)))), (3, .one (.c (.ptr 0 0))), (4, .one (.c (.own 1 (.int .u64) w78.2.1))), (5, .one (.c (.d (.int .i64 w78.2.2.1)))), (9, .one (.c (.d (.int .i64 0))))], [(1, some ⟨49, 0⟩)], [(0, [.d (.bool r80_1.2.1), .d (.int .u64 r80_1.2.2.1), .d (.int .u64 r80_1.2.2.2.1), .d (.int .u64 r80_1.2.2.2.2.1), .d (.int .u64 r80_1.2.2.2.2.2.1), .d (.int .u64 r80_1.2.2.2.2.2.2)])], 2⟩ [] (by kernel_rfl) trivial ?_
            obtain ⟨w90, cw90, h⟩ := bindS h
            refine f7_broughamlaw41_ReplayOnce_L18_ok n w78.1 w78.2.1 w78.2.2.1 0 r80_1.2.1 r80_1.2.2.1 r80_1.2.2.2.1 r80_1.2.2.2.2.1 r80_1.2.2.2.2.2.1 r80_1.2.2.2.2.2.2 w90 cw90 _ ?_
            rcases w90 with e91 | e92
            · have h := Option.some.inj h
              subst h
              exact hk
            · show At Go.Proofs.Try.prog Go.Proofs.Try.f7 0 22 ⟨[(0, .one (.c (.d (.sl (.int .u64) e92.1)))), (3, .one (.c (.ptr 0 0))), (4, .one (.c (.own 1 (.int .u64) e92.2.1))), (5, .one (.c (.d (.int .i64 e92.2.2.1))))], [(1, some ⟨49, 0⟩)], [(0, [.d (.bool e92.2.2.2.1), .d (.int .u64 e92.2.2.2.2.1), .d (.int .u64 e92.2.2.2.2.2.1), .d (.int .u64 e92.2.2.2.2.2.2.1), .d (.int .u64 e92.2.2.2.2.2.2.2.1), .d (.int .u64 e92.2.2.2.2.2.2.2.2)])], 2⟩ _
              obtain ⟨g93_0, h⟩ := ifS h
              obtain ⟨g93_1, h⟩ := ifS h
              refine At.step hm ht ⟨[], [], [], [0, 3, 4, 5], [0, 8]⟩ 7 ⟨[(0, .one (.c (.d (.sl (.int .u64) e92.1)))), (3, .one (.c (.ptr 0 0))), (4, .one (.c (.own 1 (.int .u64) (e92.2.1 ++ [(e92.1.getD e92.2.2.1.toNat 0)])))), (5, .one (.c (.d (.int .i64 e92.2.2.1))))], [(1, some ⟨49, 0⟩)], [(0, [.d (.bool e92.2.2.2.1), .d (.int .u64 e92.2.2.2.2.1), .d (.int .u64 e92.2.2.2.2.2.1), .d (.int .u64 e92.2.2.2.2.2.2.1), .d (.int .u64 e92.2.2.2.2.2.2.2.1), .d (.int .u64 e92.2.2.2.2.2.2.2.2)])], 2⟩ [(0 : Int) ≤ e92.2.2.1 ∧ e92.2.2.1 < (((e92.1).length : Nat) : Int), e92.2.1.length + [(e92.1.getD e92.2.2.1.toNat 0)].length ≤ maxLen ∧ (e92.2.1.length + [(e92.1.getD e92.2.2.1.toNat 0)].length) * 8 ≤ 140737488355328] (by kernel_rfl) ⟨g93_0, g93_1, trivial⟩ ?_
              refine At.step hm ht ⟨[], [], [], [0, 3, 4, 5], [0, 1]⟩ 6 ⟨[(0, .one (.c (.d (.sl (.int .u64) e92.1)))), (3, .one (.c (.ptr 0 0))), (4, .one (.c (.own 1 (.int .u64) (e92.2.1 ++ [(e92.1.getD e92.2.2.1.toNat 0)])))), (5, .one (.c (.d (.int .i64 (IntKind.wrap .i64 (e92.2.2.1 + 1))))))], [(1, some ⟨49, 0⟩)], [(0, [.d (.bool e92.2.2.2.1), .d (.int .u64 e92.2.2.2.2.1), .d (.int .u64 e92.2.2.2.2.2.1), .d (.int .u64 e92.2.2.2.2.2.2.1), .d (.int .u64 e92.2.2.2.2.2.2.2.1), .d (.int .u64 e92.2.2.2.2.2.2.2.2)])], 2⟩ [] (by kernel_rfl) trivial ?_
              exact ih e92.1 (e92.2.1 ++ [(e92.1.getD e92.2.2.1.toNat 0)]) (IntKind.wrap .i64 (e92.2.2.1 + 1)) e92.2.2.2.1 e92.2.2.2.2.1 e92.2.2.2.2.2.1 e92.2.2.2.2.2.2.1 e92.2.2.2.2.2.2.2.1 e92.2.2.2.2.2.2.2.2 w h o hk
      · refine At.step hm ht ⟨[(1, .b false)], [false], [], [0, 3, 4, 5, 8], [0, 1]⟩ 16 ⟨[(0, .one (.c (.d (.sl (.int .u64) w78.1)))), (3, .one (.c (.ptr 0 0))), (4, .one (.c (.own 1 (.int .u64) w78.2.1))), (5, .one (.c (.d (.int .i64 w78.2.2.1)))), (8, .one (.c (.d (.bool r80_1.1))))], [(1, some ⟨49, 0⟩)], [(0, [.d (.bool r80_1.2.1), .d (.int .u64 r80_1.2.2.1), .d (.int .u64 r80_1.2.2.2.1), .d (.int .u64 r80_1.2.2.2.2.1), .d (.int .u64 r80_1.2.2.2.2.2.1), .d (.int .u64 r80_1.2.2.2.2.2.2)])], 2⟩ [w78.2.2.2.1 = false, false = false] (by kernel_rfl) ⟨b81_1, rfl, trivial⟩ ?_
        rcases iteS h with ⟨b95_e0, h⟩ | ⟨b95_e0, h⟩
        · refine At.step hm ht ⟨[], [true], [], [0, 3, 4, 5], [0, 1]⟩ 7 ⟨[(0, .one (.c (.d (.sl (.int .u64) w78.1)))), (3, .one (.c (.ptr 0 0))), (4, .one (.c (.own 1 (.int .u64) w78.2.1))), (5, .one (.c (.d (.int .i64 w78.2.2.1))))], [(1, some ⟨49, 0⟩)], [(0, [.d (.bool r80_1.2.1), .d (.int .u64 r80_1.2.2.1), .d (.int .u64 r80_1.2.2.2.1), .d (.int .u64 r80_1.2.2.2.2.1), .d (.int .u64 r80_1.2.2.2.2.2.1), .d (.int .u64 r80_1.2.2.2.2.2.2)])], 2⟩ [(!r80_1.1) = true] (by kernel_rfl) ⟨b95_e0, trivial⟩ ?_
          refine At.step hm ht ⟨[], [], [], [0, 3, 4, 5], [0, 1]⟩ 6 ⟨[(0, .one (.c (.d (.sl (.int .u64) w78.1)))), (3, .one (.c (.ptr 0 0))), (4, .one (.c (.own 1 (.int .u64) w78.2.1))), (5, .one (.c (.d (.int .i64 (IntKind.wrap .i64 (w78.2.2.1 + 1))))))], [(1, some ⟨49, 0⟩)], [(0, [.d (.bool r80_1.2.1), .d (.int .u64 r80_1.2.2.1), .d (.int .u64 r80_1.2.2.2.1), .d (.int .u64 r80_1.2.2.2.2.1), .d (.int .u64 r80_1.2.2.2.2.2.1), .d (.int .u64 r80_1.2.2.2.2.2.2)])], 2⟩ [] (by kernel_rfl) trivial ?_
          exact ih w78.1 w78.2.1 (IntKind.wrap .i64 (w78.2.2.1 + 1)) r80_1.2.1 r80_1.2.2.1 r80_1.2.2.2.1 r80_1.2.2.2.2.1 r80_1.2.2.2.2.2.1 r80_1.2.2.2.2.2.2 w h o hk
        · refine At.step hm ht ⟨[], [false], [], [0, 3, 4, 5], [0, 1]⟩ 17 ⟨[(0, .one (.c (.d (.sl (.int .u64) w78.1)))), (3, .one (.c (.ptr 0 0))), (4, .one (.c (.own 1 (.int .u64) w78.2.1))), (5, .one (.c (.d (.int .i64 w78.2.2.1))))], [(1, some ⟨49, 0⟩)], [(0, [.d (.bool r80_1.2.1), .d (.int .u64 r80_1.2.2.1), .d (.int .u64 r80_1.2.2.2.1), .d (.int .u64 r80_1.2.2.2.2.1), .d (.int .u64 r80_1.2.2.2.2.2.1), .d (.int .u64 r80_1.2.2.2.2.2.2)])], 2⟩ [(!r80_1.1) = false] (by kernel_rfl) ⟨b95_e0, trivial⟩ ?_
          refine At.step hm ht ⟨[], [], [], [0, 3, 4, 5, 9], [0, 1]⟩ 18 ⟨[(0, .one (.c (.d (.sl (.int .u64) w78.1)))), (3, .one (.c (.ptr 0 0))), (4, .one (.c (.own 1 (.int .u64) w78.2.1))), (5, .one (.c (.d (.int .i64 w78.2.2.1)))), (9, .one (.c (.d (.int .i64 0))))], [(1, some ⟨49, 0⟩)], [(0, [.d (.bool r80_1.2.1), .d (.int .u64 r80_1.2.2.1), .d (.int .u64 r80_1.2.2.2.1), .d (.int .u64 r80_1.2.2.2.2.1), .d (.int .u64 r80_1.2.2.2.2.2.1), .d (.int .u64 r80_1.2.2.2.2.2.2)])], 2⟩ [] (by kernel_rfl) trivial ?_
          obtain ⟨w98, cw98, h⟩ := bindS h
          refine f7_broughamlaw41_ReplayOnce_L18_ok n w78.1 w78.2.1 w78.2.2.1 0 r80_1.2.1 r80_1.2.2.1 r80_1.2.2.2.1 r80_1.2.2.2.2.1 r80_1.2.2.2.2.2.1 r80_1.2.2.2.2.2.2 w98 cw98 _ ?_
          rcases w98 with e99 | e100
          · have h := Option.some.inj h
            subst h
            exact hk
          · show At Go.Proofs.Try.prog Go.Proofs.Try.f7 0 22 ⟨[(0, .one (.c (.d (.sl (.int .u64) e100.1)))), (3, .one (.c (.ptr 0 0))), (4, .one (.c (.own 1 (.int .u64) e100.2.1))), (5, .one (.c (.d (.int .i64 e100.2.2.1))))], [(1, some ⟨49, 0⟩)], [(0, [.d (.bool e100.2.2.2.1), .d (.int .u64 e100.2.2.2.2.1), .d (.int .u64 e100.2.2.2.2.2.1), .d (.int .u64 e100.2.2.2.2.2.2.1), .d (.int .u64 e100.2.2.2.2.2.2.2.1), .d (.int .u64 e100.2.2.2.2.2.2.2.2)])], 2⟩ _
            obtain ⟨g101_0, h⟩ := ifS h
            obtain ⟨g101_1, h⟩ := ifS h
            refine At.step hm ht ⟨[], [], [], [0, 3, 4, 5], [0, 8]⟩ 7 ⟨[(0, .one (.c (.d (.sl (.int .u64) e100.1)))), (3, .one (.c (.ptr 0 0))), (4, .one (.c (.own 1 (.int .u64) (e100.2.1 ++ [(e100.1.getD e100.2.2.1.toNat 0)])))), (5, .one (.c (.d (.int .i64 e100.2.2.1))))], [(1, some ⟨49, 0⟩)], [(0, [.d (.bool e100.2.2.2.1), .d (.int .u64 e100.2.2.2.2.1), .d (.int .u64 e100.2.2.2.2.2.1), .d (.int .u64 e100.2.2.2.2.2.2.1), .d (.int .u64 e100.2.2.2.2.2.2.2.1), .d (.int .u64 e100.2.2.2.2.2.2.2.2)])], 2⟩ [(0 : Int) ≤ e100.2.2.1 ∧ e100.2.2.1 < (((e100.1).length : Nat) : Int), e100.2.1.length + [(e100.1.getD e100.2.2.1.toNat 0)].length ≤ maxLen ∧ (e100.2.1.length + [(e100.1.getD e100.2.2.1.toNat 0)].length) * 8 ≤ 140737488355328] (by kernel_rfl) ⟨g101_0, g101_1, trivial⟩ ?_
            refine At.step hm ht ⟨[], [], [], [0, 3, 4, 5], [0, 1]⟩ 6 ⟨[(0, .one (.c (.d (.sl (.int .u64) e100.1)))), (3, .one (.c (.ptr 0 0))), (4, .one (.c (.own 1 (.int .u64) (e100.2.1 ++ [(e100.1.getD e100.2.2.1.toNat 0)])))), (5, .one (.c (.d (.int .i64 (IntKind.wrap .i64 (e100.2.2.1 + 1))))))], [(1, some ⟨49, 0⟩)], [(0, [.d (.bool e100.2.2.2.1), .d (.int .u64 e100.2.2.2.2.1), .d (.int .u64 e100.2.2.2.2.2.1), .d (.int .u64 e100.2.2.2.2.2.2.1), .d (.int .u64 e100.2.2.2.2.2.2.2.1), .d (.int .u64 e100.2.2.2.2.2.2.2.2)])], 2⟩ [] (by kernel_rfl) trivial ?_
            exact ih e100.1 (e100.2.1 ++ [(e100.1.getD e100.2.2.1.toNat 0)]) (IntKind.wrap .i64 (e100.2.2.1 + 1)) e100.2.2.2.1 e100.2.2.2.2.1 e100.2.2.2.2.2.1 e100.2.2.2.2.2.2.1 e100.2.2.2.2.2.2.2.1 e100.2.2.2.2.2.2.2.2 w h o hk
    · refine At.step hm ht ⟨[], [false], [], [], []⟩ 23 ⟨[], [], [], 0⟩ [(decide ((i : Int) < ((l.length : Nat) : Int))) = false] (by kernel_rfl) ⟨b71_e0, trivial⟩ ?_
      have h := Option.some.inj h
      subst h
      exact hk
def f7_broughamlaw41_ReplayOnce (n : Nat) (l : List Int) : Option (Bool) :=
  if (decide ((((l.length : Nat) : Int) : Int) > 300)) = true then
    some true
  else
    (f7_broughamlaw41_ReplayOnce_L6 n l [] 0 false 0 0 0 0 0).bind fun w103 =>
    match w103 with
    | .inl e104 =>
      some e104
    | .inr e105 =>
      (f27_broughamlaw41_alive n).bind fun r106_0 =>
      some r106_0
theorem f7_broughamlaw41_ReplayOnce_ok (n : Nat) (l : List Int) (r : Bool) (h : f7_broughamlaw41_ReplayOnce n l = some r) : FnOK Go.Proofs.Try.prog 7 (f7_broughamlaw41_ReplayOnce_in l) (f7_broughamlaw41_ReplayOnce_out r) := by
  unfold f7_broughamlaw41_ReplayOnce at h
  refine At.fn (r := 0) Go.Proofs.Try.func7 rfl (by kernel_rfl) rfl rfl (by kernel_rfl) ?_
  show At Go.Proofs.Try.prog Go.Proofs.Try.f7 0 0 ⟨[(0, .one (.c (.d (.sl (.int .u64) l))))], [], [], 0⟩ _
  refine At.step hm ht ⟨[], [], [], [0], []⟩ 1 ⟨[(0, .one (.c (.d (.sl (.int .u64) l))))], [], [], 0⟩ [] (by kernel_rfl) trivial ?_
  rcases iteS h with ⟨b66_e0, h⟩ | ⟨b66_e0, h⟩
  · refine At.step hm ht ⟨[], [true], [], [], []⟩ 2 ⟨[], [], [], 0⟩ [(decide ((((l.length : Nat) : Int) : Int) > 300)) = true] (by kernel_rfl) ⟨b66_e0, trivial⟩ ?_
    have h := Option.some.inj h
    subst h
    exact At.fin hm ht ⟨[], [], [], [2], []⟩ [] (by kernel_rfl) trivial
  · refine At.step hm ht ⟨[], [false], [], [0], []⟩ 3 ⟨[(0, .one (.c (.d (.sl (.int .u64) l))))], [], [], 0⟩ [(decide ((((l.length : Nat) : Int) : Int) > 300)) = false] (by kernel_rfl) ⟨b66_e0, trivial⟩ ?_
    refine At.step hm ht ⟨[], [], [], [0, 3], [1]⟩ 4 ⟨[(0, .one (.c (.d (.sl (.int .u64) l)))), (3, .one (.c (.ptr 0 0)))], [], [(0, [.d (.bool false), .d (.int .u64 0), .d (.int .u64 0), .d (.int .u64 0), .d (.int .u64 0), .d (.int .u64 0)])], 1⟩ [0 + 6 ≤ 6] (by kernel_rfl) ⟨(by decide), trivial⟩ ?_
    refine At.step hm ht ⟨[], [], [], [0, 3, 4], [0]⟩ 5 ⟨[(0, .one (.c (.d (.sl (.int .u64) l)))), (3, .one (.c (.ptr 0 0))), (4, .one (.c (.d (.sl .unit []))))], [], [(0, [.d (.bool false), .d (.int .u64 0), .d (.int .u64 0), .d (.int .u64 0), .d (.int .u64 0), .d (.int .u64 0)])], 1⟩ [] (by kernel_rfl) trivial ?_
    refine At.step hm ht ⟨[], [], [.nil false 4 0 (.int .u64) (some 49)], [0, 3, 4, 5], [0, 2]⟩ 6 ⟨[(0, .one (.c (.d (.sl (.int .u64) l)))), (3, .one (.c (.ptr 0 0))), (4, .one (.c (.own 1 (.int .u64) []))), (5, .one (.c (.d (.int .i64 0))))], [(1, some ⟨49, 0⟩)], [(0, [.d (.bool false), .d (.int .u64 0), .d (.int .u64 0), .d (.int .u64 0), .d (.int .u64 0), .d (.int .u64 0)])], 2⟩ [] (by kernel_rfl) trivial ?_
    obtain ⟨w103, cw103, h⟩ := bindS h
    refine f7_broughamlaw41_ReplayOnce_L6_ok n l [] 0 false 0 0 0 0 0 w103 cw103 _ ?_
    rcases w103 with e104 | e105
    · have h := Option.some.inj h
      subst h
      rfl
    · show At Go.Proofs.Try.prog Go.Proofs.Try.f7 0 23 ⟨[], [], [], 0⟩ _
      obtain ⟨r106_0, cr106_0, h⟩ := bindS h
      have h := Option.some.inj h
      subst h
      exact At.fin hm ht ⟨[(0, .call [] [] (f27_broughamlaw41_alive_out r106_0))], [], [], [2], []⟩ [FnOK Go.Proofs.Try.prog 27 (f27_broughamlaw41_alive_in) (f27_broughamlaw41_alive_out r106_0)] (by kernel_rfl) ⟨(f27_broughamlaw41_alive_ok n r106_0 cr106_0), trivial⟩
/-! brougham/broughamref41.top -/
def f76_broughamref41_top_in (l : List Int) : Inn := ⟨[.c (.d (.sl (.int .u64) l))], [], [], 0⟩
def f76_broughamref41_top_out (r : Int × Bool) : Out := ⟨.tup [.c (.d (.int .u64 r.1)), .c (.d (.bool r.2))], [], [], 0⟩
def f76_broughamref41_top_L3 : Nat → (List Int) → Int → Int → Option (List Int × Int)
  | 0, _, _, _ => none
  | n + 1, l, n_, i =>
    if (decide ((i : Int) < ((l.length : Nat) : Int))) = true then
      if (0 : Int) ≤ i ∧ i < (((l).length : Nat) : Int) then
      if (decide (((l.getD i.toNat 0) : Int) > n_)) = true then
        if (0 : Int) ≤ i ∧ i < (((l).length : Nat) : Int) then
        f76_broughamref41_top_L3 n l (l.getD i.toNat 0) (IntKind.wrap .i64 (i + 1))
        else none
      else
        f76_broughamref41_top_L3 n l n_ (IntKind.wrap .i64 (i + 1))
      else none
    else
      some ((l, n_))
def f76_broughamref41_top_L3_k (e : List Int × Int) (o : Out) : Prop := At Go.Proofs.Try.prog Go.Proofs.Try.f76 0 7 ⟨[(0, .one (.c (.d (.sl (.int .u64) e.1)))), (4, .one (.c (.d (.int .u64 e.2))))], [], [], 0⟩ o
theorem f76_broughamref41_top_L3_ok (n : Nat) : ∀ (l : List Int) (n_ : Int) (i : Int) (w : List Int × Int) (h : f76_broughamref41_top_L3 n l n_ i = some w) (o : Out) (hk : f76_broughamref41_top_L3_k w o), At Go.Proofs.Try.prog Go.Proofs.Try.f76 0 3 ⟨[(0, .one (.c (.d (.sl (.int .u64) l)))), (4, .one (.c (.d (.int .u64 n_)))), (5, .one (.c (.d (.int .i64 i))))], [], [], 0⟩ o := by
  induction n with
  | zero => intro l n_ i w h; rw [f76_broughamref41_top_L3] at h; cases h
  | succ n ih =>
    intro l n_ i w h o hk
    rw [f76_broughamref41_top_L3] at h
    rcases iteS h with ⟨b142_e0, h⟩ | ⟨b142_e0, h⟩
    · refine At.step hm ht ⟨[], [true], [], [0, 4, 5], []⟩ 5 ⟨[(0, .one (.c (.d (.sl (.int .u64) l)))), (4, .one (.c (.d (.int .u64 n_)))), (5, .one (.c (.d (.int .i64 i))))], [], [], 0⟩ [(decide ((i : Int) < ((l.length : Nat) : Int))) = true] (by kernel_rfl) ⟨b142_e0, trivial⟩ ?_
      obtain ⟨g143_0, h⟩ := ifS h
      rcases iteS h with ⟨b143_e0, h⟩ | ⟨b143_e0, h⟩
      · refine At.step hm ht ⟨[], [true], [], [0, 5], []⟩ 6 ⟨[(0, .one (.c (.d (.sl (.int .u64) l)))), (5, .one (.c (.d (.int .i64 i))))], [], [], 0⟩ [(0 : Int) ≤ i ∧ i < (((l).length : Nat) : Int), (decide (((l.getD i.toNat 0) : Int) > n_)) = true] (by kernel_rfl) ⟨g143_0, b143_e0, trivial⟩ ?_
        obtain ⟨g144_0, h⟩ := ifS h
        refine At.step hm ht ⟨[], [], [], [0, 4, 5], []⟩ 4 ⟨[(0, .one (.c (.d (.sl (.int .u64) l)))), (4, .one (.c (.d (.int .u64 (l.getD i.toNat 0))))), (5, .one (.c (.d (.int .i64 i))))], [], [], 0⟩ [(0 : Int) ≤ i ∧ i < (((l).length : Nat) : Int)] (by kernel_rfl) ⟨g144_0, trivial⟩ ?_
        refine At.step hm ht ⟨[], [], [], [0, 4, 5], []⟩ 3 ⟨[(0, .one (.c (.d (.sl (.int .u64) l)))), (4, .one (.c (.d (.int .u64 (l.getD i.toNat 0))))), (5, .one (.c (.d (.int .i64 (IntKind.wrap .i64 (i + 1))))))], [], [], 0⟩ [] (by kernel_rfl) trivial ?_
        exact ih l (l.getD i.toNat 0) (IntKind.wrap .i64 (i + 1)) w h o hk
      · refine At.step hm ht ⟨[], [false], [], [0, 4, 5], []⟩ 4 ⟨[(0, .one (.c (.d (.sl (.int .u64) l)))), (4, .one (.c (.d (.int .u64 n_)))), (5, .one (.c (.d (.int .i64 i))))], [], [], 0⟩ [(0 : Int) ≤ i ∧ i < (((l).length : Nat) : Int), (decide (((l.getD i.toNat 0) : Int) > n_)) = false] (by kernel_rfl) ⟨g143_0, b143_e0, trivial⟩ ?_
        refine At.step hm ht ⟨[], [], [], [0, 4, 5], []⟩ 3 ⟨[(0, .one (.c (.d (.sl (.int .u64) l)))), (4, .one (.c (.d (.int .u64 n_)))), (5, .one (.c (.d (.int .i64 (IntKind.wrap .i64 (i + 1))))))], [], [], 0⟩ [] (by kernel_rfl) trivial ?_
        exact ih l n_ (IntKind.wrap .i64 (i + 1)) w h o hk
    · refine At.step hm ht ⟨[], [false], [], [0, 4], []⟩ 7 ⟨[(0, .one (.c (.d (.sl (.int .u64) l)))), (4, .one (.c (.d (.int .u64 n_))))], [], [], 0⟩ [(decide ((i : Int) < ((l.length : Nat) : Int))) = false] (by kernel_rfl) ⟨b142_e0, trivial⟩ ?_
      have h := Option.some.inj h
      subst h
      exact hk
def f76_broughamref41_top (n : Nat) (l : List Int) : Option (Int × Bool) :=
  (f76_broughamref41_top_L3 n l 0 0).bind fun w147 =>
  some (w147.2, (decide ((((w147.1.length : Nat) : Int) : Int) > 0)))
theorem f76_broughamref41_top_ok (n : Nat) (l : List Int) (r : Int × Bool) (h : f76_broughamref41_top n l = some r) : FnOK Go.Proofs.Try.prog 76 (f76_broughamref41_top_in l) (f76_broughamref41_top_out r) := by
  unfold f76_broughamref41_top at h
  refine At.fn (r := 0) Go.Proofs.Try.func76 rfl (by kernel_rfl) rfl rfl (by kernel_rfl) ?_
  show At Go.Proofs.Try.prog Go.Proofs.Try.f76 0 0 ⟨[(0, .one (.c (.d (.sl (.int .u64) l))))], [], [], 0⟩ _
  refine At.step hm ht ⟨[], [], [], [0], []⟩ 1 ⟨[(0, .one (.c (.d (.sl (.int .u64) l))))], [], [], 0⟩ [] (by kernel_rfl) trivial ?_
  refine At.step hm ht ⟨[], [], [], [0, 4], []⟩ 2 ⟨[(0, .one (.c (.d (.sl (.int .u64) l)))), (4, .one (.c (.d (.int .u64 0))))], [], [], 0⟩ [] (by kernel_rfl) trivial ?_
  refine At.step hm ht ⟨[], [], [], [0, 4, 5], []⟩ 3 ⟨[(0, .one (.c (.d (.sl (.int .u64) l)))), (4, .one (.c (.d (.int .u64 0)))), (5, .one (.c (.d (.int .i64 0))))], [], [], 0⟩ [] (by kernel_rfl) trivial ?_
  obtain ⟨w147, cw147, h⟩ := bindS h
  refine f76_broughamref41_top_L3_ok n l 0 0 w147 cw147 _ ?_
  show At Go.Proofs.Try.prog Go.Proofs.Try.f76 0 7 ⟨[(0, .one (.c (.d (.sl (.int .u64) w147.1)))), (4, .one (.c (.d (.int .u64 w147.2))))], [], [], 0⟩ _
  have h := Option.some.inj h
  subst h
  exact At.fin hm ht ⟨[], [], [], [2, 3], []⟩ [] (by kernel_rfl) trivial
/-! brougham/broughamref41.has -/
def f77_broughamref41_has_in (l : List Int) (n_ : Int) : Inn := ⟨[.c (.d (.sl (.int .u64) l)), .c (.d (.int .u64 n_))], [], [], 0⟩
def f77_broughamref41_has_out (r : Bool) : Out := ⟨.one (.c (.d (.bool r))), [], [], 0⟩
def f77_broughamref41_has_L2 : Nat → (List Int) → Int → Int → Option ((Bool) ⊕ (Unit))
  | 0, _, _, _ => none
  | n + 1, l, n_, i =>
    if (decide ((i : Int) < ((l.length : Nat) : Int))) = true then
      if (0 : Int) ≤ i ∧ i < (((l).length : Nat) : Int) then
      if (((l.getD i.toNat 0) : Int) == n_) = true then
        some (.inl true)
      else
        f77_broughamref41_has_L2 n l n_ (IntKind.wrap .i64 (i + 1))
      else none
    else
      some (.inr ())
def f77_broughamref41_has_L2_k (w : (Bool) ⊕ (Unit)) (o : Out) : Prop := match w with
  | .inl e => o = f77_broughamref41_has_out e
  | .inr e => At Go.Proofs.Try.prog Go.Proofs.Try.f77 0 6 ⟨[], [], [], 0⟩ o
theorem f77_broughamref41_has_L2_ok (n : Nat) : ∀ (l : List Int) (n_ : Int) (i : Int) (w : (Bool) ⊕ (Unit)) (h : f77_broughamref41_has_L2 n l n_ i = some w) (o : Out) (hk : f77_broughamref41_has_L2_k w o), At Go.Proofs.Try.prog Go.Proofs.Try.f77 0 2 ⟨[(0, .one (.c (.d (.sl (.int .u64) l)))), (1, .one (.c (.d (.int .u64 n_)))), (5, .one (.c (.d (.int .i64 i))))], [], [], 0⟩ o := by
  induction n with
  | zero => intro l n_ i w h; rw [f77_broughamref41_has_L2] at h; cases h
  | succ n ih =>
    intro l n_ i w h o hk
    rw [f77_broughamref41_has_L2] at h
    rcases iteS h with ⟨b153_e0, h⟩ | ⟨b153_e0, h⟩
    · refine At.step hm ht ⟨[], [true], [], [0, 1, 5], []⟩ 4 ⟨[(0, .one (.c (.d (.sl (.int .u64) l)))), (1, .one (.c (.d (.int .u64 n_)))), (5, .one (.c (.d (.int .i64 i))))], [], [], 0⟩ [(decide ((i : Int) < ((l.length : Nat) : Int))) = true] (by kernel_rfl) ⟨b153_e0, trivial⟩ ?_
      obtain ⟨g154_0, h⟩ := ifS h
      rcases iteS h with ⟨b154_e0, h⟩ | ⟨b154_e0, h⟩
      · refine At.step hm ht ⟨[], [true], [], [], []⟩ 5 ⟨[], [], [], 0⟩ [(0 : Int) ≤ i ∧ i < (((l).length : Nat) : Int), (((l.getD i.toNat 0) : Int) == n_) = true] (by kernel_rfl) ⟨g154_0, b154_e0, trivial⟩ ?_
        have h := Option.some.inj h
        subst h
        have hk : o = f77_broughamref41_has_out true := hk
        subst hk
        exact At.fin hm ht ⟨[], [], [], [4], []⟩ [] (by kernel_rfl) trivial
      · refine At.step hm ht ⟨[], [false], [], [0, 1, 5], []⟩ 3 ⟨[(0, .one (.c (.d (.sl (.int .u64) l)))), (1, .one (.c (.d (.int .u64 n_)))), (5, .one (.c (.d (.int .i64 i))))], [], [], 0⟩ [(0 : Int) ≤ i ∧ i < (((l).length : Nat) : Int), (((l.getD i.toNat 0) : Int) == n_) = false] (by kernel_rfl) ⟨g154_0, b154_e0, trivial⟩ ?_
        refine At.step hm ht ⟨[], [], [], [0, 1, 5], []⟩ 2 ⟨[(0, .one (.c (.d (.sl (.int .u64) l)))), (1, .one (.c (.d (.int .u64 n_)))), (5, .one (.c (.d (.int .i64 (IntKind.wrap .i64 (i + 1))))))], [], [], 0⟩ [] (by kernel_rfl) trivial ?_
        exact ih l n_ (IntKind.wrap .i64 (i + 1)) w h o hk
    · refine At.step hm ht ⟨[], [false], [], [], []⟩ 6 ⟨[], [], [], 0⟩ [(decide ((i : Int) < ((l.length : Nat) : Int))) = false] (by kernel_rfl) ⟨b153_e0, trivial⟩ ?_
      have h := Option.some.inj h
      subst h
      exact hk
def f77_broughamref41_has (n : Nat) (l : List Int) (n_ : Int) : Option (Bool) :=
  (f77_broughamref41_has_L2 n l n_ 0).bind fun w157 =>
  match w157 with
  | .inl e158 =>
    some e158
  | .inr e159 =>
    some false
theorem f77_broughamref41_has_ok (n : Nat) (l : List Int) (n_ : Int) (r : Bool) (h : f77_broughamref41_has n l n_ = some r) : FnOK Go.Proofs.Try.prog 77 (f77_broughamref41_has_in l n_) (f77_broughamref41_has_out r) := by
  unfold f77_broughamref41_has at h
  refine At.fn (r := 0) Go.Proofs.Try.func77 rfl (by kernel_rfl) rfl rfl (by kernel_rfl) ?_
  show At Go.Proofs.Try.prog Go.Proofs.Try.f77 0 0 ⟨[(0, .one (.c (.d (.sl (.int .u64) l)))), (1, .one (.c (.d (.int .u64 n_))))], [], [], 0⟩ _
  refine At.step hm ht ⟨[], [], [], [0, 1], []⟩ 1 ⟨[(0, .one (.c (.d (.sl (.int .u64) l)))), (1, .one (.c (.d (.int .u64 n_))))], [], [], 0⟩ [] (by kernel_rfl) trivial ?_
  refine At.step hm ht ⟨[], [], [], [0, 1, 5], []⟩ 2 ⟨[(0, .one (.c (.d (.sl (.int .u64) l)))), (1, .one (.c (.d (.int .u64 n_)))), (5, .one (.c (.d (.int .i64 0))))], [], [], 0⟩ [] (by kernel_rfl) trivial ?_
  obtain ⟨w157, cw157, h⟩ := bindS h
  refine f77_broughamref41_has_L2_ok n l n_ 0 w157 cw157 _ ?_
  rcases w157 with e158 | e159
  · have h := Option.some.inj h
    subst h
    rfl
  · show At Go.Proofs.Try.prog Go.Proofs.Try.f77 0 6 ⟨[], [], [], 0⟩ _
    have h := Option.some.inj h
    subst h
    exact At.fin hm ht ⟨[], [], [], [4], []⟩ [] (by kernel_rfl) trivial
/-! brougham/broughamref41.Fresh -/
def f33_broughamref41_Fresh_in (l : List Int) (n_ : Int) : Inn := ⟨[.c (.d (.sl (.int .u64) l)), .c (.d (.int .u64 n_))], [], [], 0⟩
def f33_broughamref41_Fresh_out (r : Bool) : Out := ⟨.one (.c (.d (.bool r))), [], [], 0⟩
def f33_broughamref41_Fresh (n : Nat) (l : List Int) (n_ : Int) : Option (Bool) :=
  (f76_broughamref41_top n l).bind fun r138_0 =>
  if (!r138_0.2) = true then
    some true
  else
    if (decide ((n_ : Int) > r138_0.1)) = true then
      some true
    else
      if (decide (((IntKind.wrap .u64 (r138_0.1 - n_)) : Int) < 256)) = true then
        (f77_broughamref41_has n l n_).bind fun r150_0 =>
        some (!r150_0)
      else
        some false
theorem f33_broughamref41_Fresh_ok (n : Nat) (l : List Int) (n_ : Int) (r : Bool) (h : f33_broughamref41_Fresh n l n_ = some r) : FnOK Go.Proofs.Try.prog 33 (f33_broughamref41_Fresh_in l n_) (f33_broughamref41_Fresh_out r) := by
  unfold f33_broughamref41_Fresh at h
  refine At.fn (r := 0) Go.Proofs.Try.func33 rfl (by kernel_rfl) rfl rfl (by kernel_rfl) ?_
  show At Go.Proofs.Try.prog Go.Proofs.Try.f33 0 0 ⟨[(0, .one (.c (.d (.sl (.int .u64) l)))), (1, .one (.c (.d (.int .u64 n_))))], [], [], 0⟩ _
  refine At.step hm ht ⟨[], [], [], [0, 1], []⟩ 1 ⟨[(0, .one (.c (.d (.sl (.int .u64) l)))), (1, .one (.c (.d (.int .u64 n_))))], [], [], 0⟩ [] (by kernel_rfl) trivial ?_
  obtain ⟨r138_0, cr138_0, h⟩ := bindS h
  refine At.step hm ht ⟨[(1, .call [] [] (f76_broughamref41_top_out r138_0))], [], [], [0, 1, 5, 6], []⟩ 2 ⟨[(0, .one (.c (.d (.sl (.int .u64) l)))), (1, .one (.c (.d (.int .u64 n_)))), (5, .one (.c (.d (.int .u64 r138_0.1)))), (6, .one (.c (.d (.bool r138_0.2))))], [], [], 0⟩ [FnOK Go.Proofs.Try.prog 76 (f76_broughamref41_top_in l) (f76_broughamref41_top_out r138_0)] (by kernel_rfl) ⟨(f76_broughamref41_top_ok n l r138_0 cr138_0), trivial⟩ ?_
  rcases iteS h with ⟨b150_2, h⟩ | ⟨b150_2, h⟩
  · have h := Option.some.inj h
    subst h
    exact At.fin hm ht ⟨[(2, .b true)], [], [], [4], []⟩ [(!r138_0.2) = true] (by kernel_rfl) ⟨b150_2, trivial⟩
  · rcases iteS h with ⟨b150_7, h⟩ | ⟨b150_7, h⟩
    · have h := Option.some.inj h
      subst h
      exact At.fin hm ht ⟨[(2, .b false), (7, .b true)], [], [], [4], []⟩ [(!r138_0.2) = false, (decide ((n_ : Int) > r138_0.1)) = true] (by kernel_rfl) ⟨b150_2, b150_7, trivial⟩
    · rcases iteS h with ⟨b150_12, h⟩ | ⟨b150_12, h⟩
      · obtain ⟨r150_0, cr150_0, h⟩ := bindS h
        have h := Option.some.inj h
        subst h
        exact At.fin hm ht ⟨[(2, .b false), (7, .b false), (12, .b true), (15, .call [] [] (f77_broughamref41_has_out r150_0))], [], [], [4], []⟩ [(!r138_0.2) = false, (decide ((n_ : Int) > r138_0.1)) = false, (decide (((IntKind.wrap .u64 (r138_0.1 - n_)) : Int) < 256)) = true, FnOK Go.Proofs.Try.prog 77 (f77_broughamref41_has_in l n_) (f77_broughamref41_has_out r150_0)] (by kernel_rfl) ⟨b150_2, b150_7, b150_12, (f77_broughamref41_has_ok n l n_ r150_0 cr150_0), trivial⟩
      · have h := Option.some.inj h
        subst h
        exact At.fin hm ht ⟨[(2, .b false), (7, .b false), (12, .b false)], [], [], [4], []⟩ [(!r138_0.2) = false, (decide ((n_ : Int) > r138_0.1)) = false, (decide (((IntKind.wrap .u64 (r138_0.1 - n_)) : Int) < 256)) = false] (by kernel_rfl) ⟨b150_2, b150_7, b150_12, trivial⟩
/-! (*brougham/replay.Window).Top -/
def f35_replay_Window_Top_in (w__0 : Bool) (w__1 : Int) (w__2 : Int) (w__3 : Int) (w__4 : Int) (w__5 : Int) : Inn := ⟨[.c (.ptr 0 0)], [], [(0, [.d (.bool w__0), .d (.int .u64 w__1), .d (.int .u64 w__2), .d (.int .u64 w__3), .d (.int .u64 w__4), .d (.int .u64 w__5)])], 1⟩
def f35_replay_Window_Top_out (r : Int × Bool × Bool × Int × Int × Int × Int × Int) : Out := ⟨.tup [.c (.d (.int .u64 r.1)), .c (.d (.bool r.2.1))], [], [(0, [.d (.bool r.2.2.1), .d (.int .u64 r.2.2.2.1), .d (.int .u64 r.2.2.2.2.1), .d (.int .u64 r.2.2.2.2.2.1), .d (.int .u64 r.2.2.2.2.2.2.1), .d (.int .u64 r.2.2.2.2.2.2.2)])], 1⟩
def f35_replay_Window_Top (w__0 : Bool) (w__1 : Int) (w__2 : Int) (w__3 : Int) (w__4 : Int) (w__5 : Int) : Option (Int × Bool × Bool × Int × Int × Int × Int × Int) :=
  some (w__1, w__0, w__0, w__1, w__2, w__3, w__4, w__5)
theorem f35_replay_Window_Top_ok (w__0 : Bool) (w__1 : Int) (w__2 : Int) (w__3 : Int) (w__4 : Int) (w__5 : Int) (r : Int × Bool × Bool × Int × Int × Int × Int × Int) (h : f35_replay_Window_Top w__0 w__1 w__2 w__3 w__4 w__5 = some r) : FnOK Go.Proofs.Try.prog 35 (f35_replay_Window_Top_in w__0 w__1 w__2 w__3 w__4 w__5) (f35_replay_Window_Top_out r) := by
  unfold f35_replay_Window_Top at h
  refine At.fn (r := 0) Go.Proofs.Try.func35 rfl (by kernel_rfl) rfl rfl (by kernel_rfl) ?_
  show At Go.Proofs.Try.prog Go.Proofs.Try.f35 1 0 ⟨[(0, .one (.c (.ptr 0 0)))], [], [(0, [.d (.bool w__0), .d (.int .u64 w__1), .d (.int .u64 w__2), .d (.int .u64 w__3), .d (.int .u64 w__4), .d (.int .u64 w__5)])], 1⟩ _
  refine At.step hm ht ⟨[], [], [], [0], [0]⟩ 1 ⟨[(0, .one (.c (.ptr 0 0)))], [], [(0, [.d (.bool w__0), .d (.int .u64 w__1), .d (.int .u64 w__2), .d (.int .u64 w__3), .d (.int .u64 w__4), .d (.int .u64 w__5)])], 1⟩ [] (by kernel_rfl) trivial ?_
  have h := Option.some.inj h
  subst h
  exact At.fin hm ht ⟨[], [], [], [2, 3], [0]⟩ [] (by kernel_rfl) trivial
/-! brougham/broughamref41.Top -/
def f36_broughamref41_Top_in (l : List Int) : Inn := ⟨[.c (.d (.sl (.int .u64) l))], [], [], 0⟩
def f36_broughamref41_Top_out (r : Int × Bool) : Out := ⟨.tup [.c (.d (.int .u64 r.1)), .c (.d (.bool r.2))], [], [], 0⟩
def f36_broughamref41_Top (n : Nat) (l : List Int) : Option (Int × Bool) :=
  (f76_broughamref41_top n l).bind fun r171_0 =>
  some (r171_0.1, r171_0.2)
theorem f36_broughamref41_Top_ok (n : Nat) (l : List Int) (r : Int × Bool) (h : f36_broughamref41_Top n l = some r) : FnOK Go.Proofs.Try.prog 36 (f36_broughamref41_Top_in l) (f36_broughamref41_Top_out r) := by
  unfold f36_broughamref41_Top at h
  refine At.fn (r := 0) Go.Proofs.Try.func36 rfl (by kernel_rfl) rfl rfl (by kernel_rfl) ?_
  show At Go.Proofs.Try.prog Go.Proofs.Try.f36 0 0 ⟨[(0, .one (.c (.d (.sl (.int .u64) l))))], [], [], 0⟩ _
  refine At.step hm ht ⟨[], [], [], [0], []⟩ 1 ⟨[(0, .one (.c (.d (.sl (.int .u64) l))))], [], [], 0⟩ [] (by kernel_rfl) trivial ?_
  obtain ⟨r171_0, cr171_0, h⟩ := bindS h
  have h := Option.some.inj h
  subst h
  exact At.fin hm ht ⟨[(1, .call [] [] (f76_broughamref41_top_out r171_0))], [], [], [2, 3], []⟩ [FnOK Go.Proofs.Try.prog 76 (f76_broughamref41_top_in l) (f76_broughamref41_top_out r171_0)] (by kernel_rfl) ⟨(f76_broughamref41_top_ok n l r171_0 cr171_0), trivial⟩
/-! brougham/broughamref41.Many -/
def f37_broughamref41_Many_in (l : List Int) : Inn := ⟨[.c (.d (.sl (.int .u64) l))], [], [], 0⟩
def f37_broughamref41_Many_out (r : Int × Int) : Out := ⟨.tup [.c (.d (.int .i64 r.1)), .c (.d (.int .i64 r.2))], [], [], 0⟩
def f37_broughamref41_Many_L4 : Nat → (List Int) → Int → Bool → Int → Int → Int → Option (Int × Int)
  | 0, _, _, _, _, _, _ => none
  | n + 1, l, t, any, came, not, i =>
    if any = true then
      if (decide ((i : Int) < 256)) = true then
        if (decide ((i : Int) ≤ t)) = true then
          (f77_broughamref41_has n l (IntKind.wrap .u64 (t - i))).bind fun r178_0 =>
          if r178_0 = true then
            f37_broughamref41_Many_L4 n l t any (IntKind.wrap .i64 (came + 1)) not (IntKind.wrap .u64 (i + 1))
          else
            f37_broughamref41_Many_L4 n l t any came (IntKind.wrap .i64 (not + 1)) (IntKind.wrap .u64 (i + 1))
        else
          some ((came, not))
      else
        some ((came, not))
    else
      some ((came, not))
def f37_broughamref41_Many_L4_k (e : Int × Int) (o : Out) : Prop := At Go.Proofs.Try.prog Go.Proofs.Try.f37 0 9 ⟨[(6, .one (.c (.d (.int .i64 e.1)))), (7, .one (.c (.d (.int .i64 e.2))))], [], [], 0⟩ o
theorem f37_broughamref41_Many_L4_ok (n : Nat) : ∀ (l : List Int) (t : Int) (any : Bool) (came : Int) (not : Int) (i : Int) (w : Int × Int) (h : f37_broughamref41_Many_L4 n l t any came not i = some w) (o : Out) (hk : f37_broughamref41_Many_L4_k w o), At Go.Proofs.Try.prog Go.Proofs.Try.f37 0 4 ⟨[(0, .one (.c (.d (.sl (.int .u64) l)))), (4, .one (.c (.d (.int .u64 t)))), (5, .one (.c (.d (.bool any)))), (6, .one (.c (.d (.int .i64 came)))), (7, .one (.c (.d (.int .i64 not)))), (8, .one (.c (.d (.int .u64 i))))], [], [], 0⟩ o := by
  induction n with
  | zero => intro l t any came not i w h; rw [f37_broughamref41_Many_L4] at h; cases h
  | succ n ih =>
    intro l t any came not i w h o hk
    rw [f37_broughamref41_Many_L4] at h
    rcases iteS h with ⟨b177_1, h⟩ | ⟨b177_1, h⟩
    · rcases iteS h with ⟨b177_5, h⟩ | ⟨b177_5, h⟩
      · rcases iteS h with ⟨b177_e0, h⟩ | ⟨b177_e0, h⟩
        · refine At.step hm ht ⟨[(1, .b true), (5, .b true)], [true], [], [0, 4, 5, 6, 7, 8], []⟩ 6 ⟨[(0, .one (.c (.d (.sl (.int .u64) l)))), (4, .one (.c (.d (.int .u64 t)))), (5, .one (.c (.d (.bool any)))), (6, .one (.c (.d (.int .i64 came)))), (7, .one (.c (.d (.int .i64 not)))), (8, .one (.c (.d (.int .u64 i))))], [], [], 0⟩ [any = true, (decide ((i : Int) < 256)) = true, (decide ((i : Int) ≤ t)) = true] (by kernel_rfl) ⟨b177_1, b177_5, b177_e0, trivial⟩ ?_
          obtain ⟨r178_0, cr178_0, h⟩ := bindS h
          rcases iteS h with ⟨b178_e0, h⟩ | ⟨b178_e0, h⟩
          · refine At.step hm ht ⟨[(4, .call [] [] (f77_broughamref41_has_out r178_0))], [true], [], [0, 4, 5, 6, 7, 8], []⟩ 7 ⟨[(0, .one (.c (.d (.sl (.int .u64) l)))), (4, .one (.c (.d (.int .u64 t)))), (5, .one (.c (.d (.bool any)))), (6, .one (.c (.d (.int .i64 came)))), (7, .one (.c (.d (.int .i64 not)))), (8, .one (.c (.d (.int .u64 i))))], [], [], 0⟩ [FnOK Go.Proofs.Try.prog 77 (f77_broughamref41_has_in l (IntKind.wrap .u64 (t - i))) (f77_broughamref41_has_out r178_0), r178_0 = true] (by kernel_rfl) ⟨(f77_broughamref41_has_ok n l (IntKind.wrap .u64 (t - i)) r178_0 cr178_0), b178_e0, trivial⟩ ?_
            refine At.step hm ht ⟨[], [], [], [0, 4, 5, 6, 7, 8], []⟩ 5 ⟨[(0, .one (.c (.d (.sl (.int .u64) l)))), (4, .one (.c (.d (.int .u64 t)))), (5, .one (.c (.d (.bool any)))), (6, .one (.c (.d (.int .i64 (IntKind.wrap .i64 (came + 1)))))), (7, .one (.c (.d (.int .i64 not)))), (8, .one (.c (.d (.int .u64 i))))], [], [], 0⟩ [] (by kernel_rfl) trivial ?_
            refine At.step hm ht ⟨[], [], [], [0, 4, 5, 6, 7, 8], []⟩ 4 ⟨[(0, .one (.c (.d (.sl (.int .u64) l)))), (4, .one (.c (.d (.int .u64 t)))), (5, .one (.c (.d (.bool any)))), (6, .one (.c (.d (.int .i64 (IntKind.wrap .i64 (came + 1)))))), (7, .one (.c (.d (.int .i64 not)))), (8, .one (.c (.d (.int .u64 (IntKind.wrap .u64 (i + 1))))))], [], [], 0⟩ [] (by kernel_rfl) trivial ?_
            exact ih l t any (IntKind.wrap .i64 (came + 1)) not (IntKind.wrap .u64 (i + 1)) w h o hk
          · refine At.step hm ht ⟨[(4, .call [] [] (f77_broughamref41_has_out r178_0))], [false], [], [0, 4, 5, 6, 7, 8], []⟩ 8 ⟨[(0, .one (.c (.d (.sl (.int .u64) l)))), (4, .one (.c (.d (.int .u64 t)))), (5, .one (.c (.d (.bool any)))), (6, .one (.c (.d (.int .i64 came)))), (7, .one (.c (.d (.int .i64 not)))), (8, .one (.c (.d (.int .u64 i))))], [], [], 0⟩ [FnOK Go.Proofs.Try.prog 77 (f77_broughamref41_has_in l (IntKind.wrap .u64 (t - i))) (f77_broughamref41_has_out r178_0), r178_0 = false] (by kernel_rfl) ⟨(f77_broughamref41_has_ok n l (IntKind.wrap .u64 (t - i)) r178_0 cr178_0), b178_e0, trivial⟩ ?_
            refine At.step hm ht ⟨[], [], [], [0, 4, 5, 6, 7, 8], []⟩ 5 ⟨[(0, .one (.c (.d (.sl (.int .u64) l)))), (4, .one (.c (.d (.int .u64 t)))), (5, .one (.c (.d (.bool any)))), (6, .one (.c (.d (.int .i64 came)))), (7, .one (.c (.d (.int .i64 (IntKind.wrap .i64 (not + 1)))))), (8, .one (.c (.d (.int .u64 i))))], [], [], 0⟩ [] (by kernel_rfl) trivial ?_
            refine At.step hm ht ⟨[], [], [], [0, 4, 5, 6, 7, 8], []⟩ 4 ⟨[(0, .one (.c (.d (.sl (.int .u64) l)))), (4, .one (.c (.d (.int .u64 t)))), (5, .one (.c (.d (.bool any)))), (6, .one (.c (.d (.int .i64 came)))), (7, .one (.c (.d (.int .i64 (IntKind.wrap .i64 (not + 1)))))), (8, .one (.c (.d (.int .u64 (IntKind.wrap .u64 (i + 1))))))], [], [], 0⟩ [] (by kernel_rfl) trivial ?_
            exact ih l t any came (IntKind.wrap .i64 (not + 1)) (IntKind.wrap .u64 (i + 1)) w h o hk
        · refine At.step hm ht ⟨[(1, .b true), (5, .b true)], [false], [], [6, 7], []⟩ 9 ⟨[(6, .one (.c (.d (.int .i64 came)))), (7, .one (.c (.d (.int .i64 not))))], [], [], 0⟩ [any = true, (decide ((i : Int) < 256)) = true, (decide ((i : Int) ≤ t)) = false] (by kernel_rfl) ⟨b177_1, b177_5, b177_e0, trivial⟩ ?_
          have h := Option.some.inj h
          subst h
          exact hk
      · refine At.step hm ht ⟨[(1, .b true), (5, .b false)], [false], [], [6, 7], []⟩ 9 ⟨[(6, .one (.c (.d (.int .i64 came)))), (7, .one (.c (.d (.int .i64 not))))], [], [], 0⟩ [any = true, (decide ((i : Int) < 256)) = false, false = false] (by kernel_rfl) ⟨b177_1, b177_5, rfl, trivial⟩ ?_
        have h := Option.some.inj h
        subst h
        exact hk
    · refine At.step hm ht ⟨[(1, .b false)], [false], [], [6, 7], []⟩ 9 ⟨[(6, .one (.c (.d (.int .i64 came)))), (7, .one (.c (.d (.int .i64 not))))], [], [], 0⟩ [any = false, false = false] (by kernel_rfl) ⟨b177_1, rfl, trivial⟩ ?_
      have h := Option.some.inj h
      subst h
      exact hk
def f37_broughamref41_Many (n : Nat) (l : List Int) : Option (Int × Int) :=
  (f76_broughamref41_top n l).bind fun r174_0 =>
  (f37_broughamref41_Many_L4 n l r174_0.1 r174_0.2 0 0 0).bind fun w183 =>
  some (w183.1, w183.2)
theorem f37_broughamref41_Many_ok (n : Nat) (l : List Int) (r : Int × Int) (h : f37_broughamref41_Many n l = some r) : FnOK Go.Proofs.Try.prog 37 (f37_broughamref41_Many_in l) (f37_broughamref41_Many_out r) := by
  unfold f37_broughamref41_Many at h
  refine At.fn (r := 0) Go.Proofs.Try.func37 rfl (by kernel_rfl) rfl rfl (by kernel_rfl) ?_
  show At Go.Proofs.Try.prog Go.Proofs.Try.f37 0 0 ⟨[(0, .one (.c (.d (.sl (.int .u64) l))))], [], [], 0⟩ _
  refine At.step hm ht ⟨[], [], [], [0], []⟩ 1 ⟨[(0, .one (.c (.d (.sl (.int .u64) l))))], [], [], 0⟩ [] (by kernel_rfl) trivial ?_
  obtain ⟨r174_0, cr174_0, h⟩ := bindS h
  refine At.step hm ht ⟨[(1, .call [] [] (f76_broughamref41_top_out r174_0))], [], [], [0, 4, 5], []⟩ 2 ⟨[(0, .one (.c (.d (.sl (.int .u64) l)))), (4, .one (.c (.d (.int .u64 r174_0.1)))), (5, .one (.c (.d (.bool r174_0.2))))], [], [], 0⟩ [FnOK Go.Proofs.Try.prog 76 (f76_broughamref41_top_in l) (f76_broughamref41_top_out r174_0)] (by kernel_rfl) ⟨(f76_broughamref41_top_ok n l r174_0 cr174_0), trivial⟩ ?_
  refine At.step hm ht ⟨[], [], [], [0, 4, 5, 6, 7], []⟩ 3 ⟨[(0, .one (.c (.d (.sl (.int .u64) l)))), (4, .one (.c (.d (.int .u64 r174_0.1)))), (5, .one (.c (.d (.bool r174_0.2)))), (6, .one (.c (.d (.int .i64 0)))), (7, .one (.c (.d (.int .i64 0))))], [], [], 0⟩ [] (by kernel_rfl) trivial ?_
  refine At.step hm ht ⟨[], [], [], [0, 4, 5, 6, 7, 8], []⟩ 4 ⟨[(0, .one (.c (.d (.sl (.int .u64) l)))), (4, .one (.c (.d (.int .u64 r174_0.1)))), (5, .one (.c (.d (.bool r174_0.2)))), (6, .one (.c (.d (.int .i64 0)))), (7, .one (.c (.d (.int .i64 0)))), (8, .one (.c (.d (.int .u64 0))))], [], [], 0⟩ [] (by kernel_rfl) trivial ?_
  obtain ⟨w183, cw183, h⟩ := bindS h
  refine f37_broughamref41_Many_L4_ok n l r174_0.1 r174_0.2 0 0 0 w183 cw183 _ ?_
  show At Go.Proofs.Try.prog Go.Proofs.Try.f37 0 9 ⟨[(6, .one (.c (.d (.int .i64 w183.1)))), (7, .one (.c (.d (.int .i64 w183.2))))], [], [], 0⟩ _
  have h := Option.some.inj h
  subst h
  exact At.fin hm ht ⟨[], [], [], [2, 3], []⟩ [] (by kernel_rfl) trivial
/-! (*brougham/replay.Window).Missing -/
def f39_replay_Window_Missing_in (w__0 : Bool) (w__1 : Int) (w__2 : Int) (w__3 : Int) (w__4 : Int) (w__5 : Int) : Inn := ⟨[.c (.ptr 0 0)], [], [(0, [.d (.bool w__0), .d (.int .u64 w__1), .d (.int .u64 w__2), .d (.int .u64 w__3), .d (.int .u64 w__4), .d (.int .u64 w__5)])], 1⟩
def f39_replay_Window_Missing_out (r : Int × Bool × Int × Int × Int × Int × Int) : Out := ⟨.one (.c (.d (.int .i64 r.1))), [], [(0, [.d (.bool r.2.1), .d (.int .u64 r.2.2.1), .d (.int .u64 r.2.2.2.1), .d (.int .u64 r.2.2.2.2.1), .d (.int .u64 r.2.2.2.2.2.1), .d (.int .u64 r.2.2.2.2.2.2)])], 1⟩
def f39_replay_Window_Missing (n : Nat) (w__0 : Bool) (w__1 : Int) (w__2 : Int) (w__3 : Int) (w__4 : Int) (w__5 : Int) : Option (Int × Bool × Int × Int × Int × Int × Int) :=
  if (!w__0) = true then
    some (0, w__0, w__1, w__2, w__3, w__4, w__5)
  else
    if (decide ((w__1 : Int) < 255)) = true then
      (f38_replay_Window_Many n w__0 w__1 w__2 w__3 w__4 w__5).bind fun r196_0 =>
      some ((IntKind.wrap .i64 ((IntKind.wrap .i64 ((IntKind.wrap .i64 w__1) + 1)) - r196_0.1)), r196_0.2.1, r196_0.2.2.1, r196_0.2.2.2.1, r196_0.2.2.2.2.1, r196_0.2.2.2.2.2.1, r196_0.2.2.2.2.2.2)
    else
      (f38_replay_Window_Many n w__0 w__1 w__2 w__3 w__4 w__5).bind fun r197_0 =>
      some ((IntKind.wrap .i64 (256 - r197_0.1)), r197_0.2.1, r197_0.2.2.1, r197_0.2.2.2.1, r197_0.2.2.2.2.1, r197_0.2.2.2.2.2.1, r197_0.2.2.2.2.2.2)
theorem f39_replay_Window_Missing_ok (n : Nat) (w__0 : Bool) (w__1 : Int) (w__2 : Int) (w__3 : Int) (w__4 : Int) (w__5 : Int) (r : Int × Bool × Int × Int × Int × Int × Int) (h : f39_replay_Window_Missing n w__0 w__1 w__2 w__3 w__4 w__5 = some r) : FnOK Go.Proofs.Try.prog 39 (f39_replay_Window_Missing_in w__0 w__1 w__2 w__3 w__4 w__5) (f39_replay_Window_Missing_out r) := by
  unfold f39_replay_Window_Missing at h
  refine At.fn (r := 0) Go.Proofs.Try.func39 rfl (by kernel_rfl) rfl rfl (by kernel_rfl) ?_
  show At Go.Proofs.Try.prog Go.Proofs.Try.f39 1 0 ⟨[(0, .one (.c (.ptr 0 0)))], [], [(0, [.d (.bool w__0), .d (.int .u64 w__1), .d (.int .u64 w__2), .d (.int .u64 w__3), .d (.int .u64 w__4), .d (.int .u64 w__5)])], 1⟩ _
  refine At.step hm ht ⟨[], [], [], [0], [0]⟩ 1 ⟨[(0, .one (.c (.ptr 0 0)))], [], [(0, [.d (.bool w__0), .d (.int .u64 w__1), .d (.int .u64 w__2), .d (.int .u64 w__3), .d (.int .u64 w__4), .d (.int .u64 w__5)])], 1⟩ [] (by kernel_rfl) trivial ?_
  rcases iteS h with ⟨b191_e0, h⟩ | ⟨b191_e0, h⟩
  · refine At.step hm ht ⟨[], [true], [], [], [0]⟩ 2 ⟨[], [], [(0, [.d (.bool w__0), .d (.int .u64 w__1), .d (.int .u64 w__2), .d (.int .u64 w__3), .d (.int .u64 w__4), .d (.int .u64 w__5)])], 1⟩ [(!w__0) = true] (by kernel_rfl) ⟨b191_e0, trivial⟩ ?_
    have h := Option.some.inj h
    subst h
    exact At.fin hm ht ⟨[], [], [], [2], [0]⟩ [] (by kernel_rfl) trivial
  · refine At.step hm ht ⟨[], [false], [], [0], [0]⟩ 3 ⟨[(0, .one (.c (.ptr 0 0)))], [], [(0, [.d (.bool w__0), .d (.int .u64 w__1), .d (.int .u64 w__2), .d (.int .u64 w__3), .d (.int .u64 w__4), .d (.int .u64 w__5)])], 1⟩ [(!w__0) = false] (by kernel_rfl) ⟨b191_e0, trivial⟩ ?_
    refine At.step hm ht ⟨[], [], [], [0, 3], [0]⟩ 4 ⟨[(0, .one (.c (.ptr 0 0))), (3, .one (.c (.d (.int .i64 256))))], [], [(0, [.d (.bool w__0), .d (.int .u64 w__1), .d (.int .u64 w__2), .d (.int .u64 w__3), .d (.int .u64 w__4), .d (.int .u64 w__5)])], 1⟩ [] (by kernel_rfl) trivial ?_
    rcases iteS h with ⟨b194_e0, h⟩ | ⟨b194_e0, h⟩
    · refine At.step hm ht ⟨[], [true], [], [0], [0]⟩ 5 ⟨[(0, .one (.c (.ptr 0 0)))], [], [(0, [.d (.bool w__0), .d (.int .u64 w__1), .d (.int .u64 w__2), .d (.int .u64 w__3), .d (.int .u64 w__4), .d (.int .u64 w__5)])], 1⟩ [(decide ((w__1 : Int) < 255)) = true] (by kernel_rfl) ⟨b194_e0, trivial⟩ ?_
      refine At.step hm ht ⟨[], [], [], [0, 3], [0]⟩ 6 ⟨[(0, .one (.c (.ptr 0 0))), (3, .one (.c (.d (.int .i64 (IntKind.wrap .i64 ((IntKind.wrap .i64 w__1) + 1))))))], [], [(0, [.d (.bool w__0), .d (.int .u64 w__1), .d (.int .u64 w__2), .d (.int .u64 w__3), .d (.int .u64 w__4), .d (.int .u64 w__5)])], 1⟩ [] (by kernel_rfl) trivial ?_
      obtain ⟨r196_0, cr196_0, h⟩ := bindS h
      have h := Option.some.inj h
      subst h
      exact At.fin hm ht ⟨[(2, .call [0] [] (f38_replay_Window_Many_out r196_0))], [], [], [2], [0]⟩ [FnOK Go.Proofs.Try.prog 38 (f38_replay_Window_Many_in w__0 w__1 w__2 w__3 w__4 w__5) (f38_replay_Window_Many_out r196_0)] (by kernel_rfl) ⟨(f38_replay_Window_Many_ok n w__0 w__1 w__2 w__3 w__4 w__5 r196_0 cr196_0), trivial⟩
    · refine At.step hm ht ⟨[], [false], [], [0, 3], [0]⟩ 6 ⟨[(0, .one (.c (.ptr 0 0))), (3, .one (.c (.d (.int .i64 256))))], [], [(0, [.d (.bool w__0), .d (.int .u64 w__1), .d (.int .u64 w__2), .d (.int .u64 w__3), .d (.int .u64 w__4), .d (.int .u64 w__5)])], 1⟩ [(decide ((w__1 : Int) < 255)) = false] (by kernel_rfl) ⟨b194_e0, trivial⟩ ?_
      obtain ⟨r197_0, cr197_0, h⟩ := bindS h
      have h := Option.some.inj h
      subst h
      exact At.fin hm ht ⟨[(2, .call [0] [] (f38_replay_Window_Many_out r197_0))], [], [], [2], [0]⟩ [FnOK Go.Proofs.Try.prog 38 (f38_replay_Window_Many_in w__0 w__1 w__2 w__3 w__4 w__5) (f38_replay_Window_Many_out r197_0)] (by kernel_rfl) ⟨(f38_replay_Window_Many_ok n w__0 w__1 w__2 w__3 w__4 w__5 r197_0 cr197_0), trivial⟩
/-! brougham/broughamlaw41.ReplayPlays -/
def f9_broughamlaw41_ReplayPlays_in (l : List Int) (x : Int) : Inn := ⟨[.c (.d (.sl (.int .u64) l)), .c (.d (.int .u64 x))], [], [], 0⟩
def f9_broughamlaw41_ReplayPlays_out (r : Bool) : Out := ⟨.one (.c (.d (.bool r))), [], [], 0⟩
def f9_broughamlaw41_ReplayPlays_L6 : Nat → (List Int) → Int → (List Int) → Int → Bool → Int → Int → Int → Int → Int → Option ((Bool) ⊕ (Unit))
  | 0, _, _, _, _, _, _, _, _, _, _ => none
  | n + 1, l, x, r_, i, w__0, w__1, w__2, w__3, w__4, w__5 =>
    if (decide ((i : Int) < ((l.length : Nat) : Int))) = true then
      if (0 : Int) ≤ i ∧ i < (((l).length : Nat) : Int) then
      (f33_broughamref41_Fresh n r_ (l.getD i.toNat 0)).bind fun r208_1 =>
      if (0 : Int) ≤ i ∧ i < (((l).length : Nat) : Int) then
      (f34_replay_Window_Fresh (l.getD i.toNat 0) w__0 w__1 w__2 w__3 w__4 w__5).bind fun r209_1 =>
      if (!(r209_1.1 == r208_1)) = true then
        some (.inl false)
      else
        if (0 : Int) ≤ i ∧ i < (((l).length : Nat) : Int) then
        (f26_replay_Window_Take n (l.getD i.toNat 0) r209_1.2.1 r209_1.2.2.1 r209_1.2.2.2.1 r209_1.2.2.2.2.1 r209_1.2.2.2.2.2.1 r209_1.2.2.2.2.2.2).bind fun r209_3 =>
        if (!(r209_3.1 == r208_1)) = true then
          some (.inl false)
        else
          if r208_1 = true then
            if (0 : Int) ≤ i ∧ i < (((l).length : Nat) : Int) then
            if r_.length + [(l.getD i.toNat 0)].length ≤ maxLen ∧ (r_.length + [(l.getD i.toNat 0)].length) * 8 ≤ 140737488355328 then
            (f35_replay_Window_Top r209_3.2.1 r209_3.2.2.1 r209_3.2.2.2.1 r209_3.2.2.2.2.1 r209_3.2.2.2.2.2.1 r209_3.2.2.2.2.2.2).bind fun r214_0 =>
            (f36_broughamref41_Top n (r_ ++ [(l.getD i.toNat 0)])).bind fun r215_0 =>
            (f37_broughamref41_Many n (r_ ++ [(l.getD i.toNat 0)])).bind fun r216_0 =>
            if ((r214_0.1 : Int) != r215_0.1) = true then
              some (.inl false)
            else
              if (!(r214_0.2.1 == r215_0.2)) = true then
                some (.inl false)
              else
                (f38_replay_Window_Many n r214_0.2.2.1 r214_0.2.2.2.1 r214_0.2.2.2.2.1 r214_0.2.2.2.2.2.1 r214_0.2.2.2.2.2.2.1 r214_0.2.2.2.2.2.2.2).bind fun r217_0 =>
                if ((r217_0.1 : Int) != r216_0.1) = true then
                  some (.inl false)
                else
                  (f39_replay_Window_Missing n r217_0.2.1 r217_0.2.2.1 r217_0.2.2.2.1 r217_0.2.2.2.2.1 r217_0.2.2.2.2.2.1 r217_0.2.2.2.2.2.2).bind fun r217_1 =>
                  if ((r217_1.1 : Int) != r216_0.2) = true then
                    some (.inl false)
                  else
                    (f34_replay_Window_Fresh x r217_1.2.1 r217_1.2.2.1 r217_1.2.2.2.1 r217_1.2.2.2.2.1 r217_1.2.2.2.2.2.1 r217_1.2.2.2.2.2.2).bind fun r217_2 =>
                    (f33_broughamref41_Fresh n (r_ ++ [(l.getD i.toNat 0)]) x).bind fun r217_3 =>
                    if (!(r217_2.1 == r217_3)) = true then
                      some (.inl false)
                    else
                      f9_broughamlaw41_ReplayPlays_L6 n l x (r_ ++ [(l.getD i.toNat 0)]) (IntKind.wrap .i64 (i + 1)) r217_2.2.1 r217_2.2.2.1 r217_2.2.2.2.1 r217_2.2.2.2.2.1 r217_2.2.2.2.2.2.1 r217_2.2.2.2.2.2.2
            else none
            else none
          else
            (f35_replay_Window_Top r209_3.2.1 r209_3.2.2.1 r209_3.2.2.2.1 r209_3.2.2.2.2.1 r209_3.2.2.2.2.2.1 r209_3.2.2.2.2.2.2).bind fun r224_0 =>
            (f36_broughamref41_Top n r_).bind fun r225_0 =>
            (f37_broughamref41_Many n r_).bind fun r226_0 =>
            if ((r224_0.1 : Int) != r225_0.1) = true then
              some (.inl false)
            else
              if (!(r224_0.2.1 == r225_0.2)) = true then
                some (.inl false)
              else
                (f38_replay_Window_Many n r224_0.2.2.1 r224_0.2.2.2.1 r224_0.2.2.2.2.1 r224_0.2.2.2.2.2.1 r224_0.2.2.2.2.2.2.1 r224_0.2.2.2.2.2.2.2).bind fun r227_0 =>
                if ((r227_0.1 : Int) != r226_0.1) = true then
                  some (.inl false)
                else
                  (f39_replay_Window_Missing n r227_0.2.1 r227_0.2.2.1 r227_0.2.2.2.1 r227_0.2.2.2.2.1 r227_0.2.2.2.2.2.1 r227_0.2.2.2.2.2.2).bind fun r227_1 =>
                  if ((r227_1.1 : Int) != r226_0.2) = true then
                    some (.inl false)
                  else
                    (f34_replay_Window_Fresh x r227_1.2.1 r227_1.2.2.1 r227_1.2.2.2.1 r227_1.2.2.2.2.1 r227_1.2.2.2.2.2.1 r227_1.2.2.2.2.2.2).bind fun r227_2 =>
                    (f33_broughamref41_Fresh n r_ x).bind fun r227_3 =>
                    if (!(r227_2.1 == r227_3)) = true then
                      some (.inl false)
                    else
                      f9_broughamlaw41_ReplayPlays_L6 n l x r_ (IntKind.wrap .i64 (i + 1)) r227_2.2.1 r227_2.2.2.1 r227_2.2.2.2.1 r227_2.2.2.2.2.1 r227_2.2.2.2.2.2.1 r227_2.2.2.2.2.2.2
        else none
      else none
      else none
    else
      some (.inr ())
def f9_broughamlaw41_ReplayPlays_L6_k (w : (Bool) ⊕ (Unit)) (o : Out) : Prop := match w with
  | .inl e => o = f9_broughamlaw41_ReplayPlays_out e
  | .inr e => At Go.Proofs.Try.prog Go.Proofs.Try.f9 0 18 ⟨[], [], [], 0⟩ o
theorem f9_broughamlaw41_ReplayPlays_L6_ok (n : Nat) : ∀ (l : List Int) (x : Int) (r_ : List Int) (i : Int) (w__0 : Bool) (w__1 : Int) (w__2 : Int) (w__3 : Int) (w__4 : Int) (w__5 : Int) (w : (Bool) ⊕ (Unit)) (h : f9_broughamlaw41_ReplayPlays_L6 n l x r_ i w__0 w__1 w__2 w__3 w__4 w__5 = some w) (o : Out) (hk : f9_broughamlaw41_ReplayPlays_L6_k w o), At Go.Proofs.Try.prog Go.Proofs.Try.f9 0 6 ⟨[(0, .one (.c (.d (.sl (.int .u64) l)))), (1, .one (.c (.d (.int .u64 x)))), (5, .one (.c (.ptr 0 0))), (6, .one (.c (.own 1 (.int .u64) r_))), (7, .one (.c (.d (.int .i64 i))))], [(1, some ⟨49, 0⟩)], [(0, [.d (.bool w__0), .d (.int .u64 w__1), .d (.int .u64 w__2), .d (.int .u64 w__3), .d (.int .u64 w__4), .d (.int .u64 w__5)])], 2⟩ o := by
  induction n with
  | zero => intro l x r_ i w__0 w__1 w__2 w__3 w__4 w__5 w h; rw [f9_broughamlaw41_ReplayPlays_L6] at h; cases h
  | succ n ih =>
    intro l x r_ i w__0 w__1 w__2 w__3 w__4 w__5 w h o hk
    rw [f9_broughamlaw41_ReplayPlays_L6] at h
    rcases iteS h with ⟨b207_e0, h⟩ | ⟨b207_e0, h⟩
    · refine At.step hm ht ⟨[], [true], [], [0, 1, 5, 6, 7], [0, 1]⟩ 8 ⟨[(0, .one (.c (.d (.sl (.int .u64) l)))), (1, .one (.c (.d (.int .u64 x)))), (5, .one (.c (.ptr 0 0))), (6, .one (.c (.own 1 (.int .u64) r_))), (7, .one (.c (.d (.int .i64 i))))], [(1, some ⟨49, 0⟩)], [(0, [.d (.bool w__0), .d (.int .u64 w__1), .d (.int .u64 w__2), .d (.int .u64 w__3), .d (.int .u64 w__4), .d (.int .u64 w__5)])], 2⟩ [(decide ((i : Int) < ((l.length : Nat) : Int))) = true] (by kernel_rfl) ⟨b207_e0, trivial⟩ ?_
      obtain ⟨g208_0, h⟩ := ifS h
      obtain ⟨r208_1, cr208_1, h⟩ := bindS h
      refine At.step hm ht ⟨[(5, .call [] [] (f33_broughamref41_Fresh_out r208_1))], [], [], [0, 1, 5, 6, 7, 8], [0, 1]⟩ 9 ⟨[(0, .one (.c (.d (.sl (.int .u64) l)))), (1, .one (.c (.d (.int .u64 x)))), (5, .one (.c (.ptr 0 0))), (6, .one (.c (.own 1 (.int .u64) r_))), (7, .one (.c (.d (.int .i64 i)))), (8, .one (.c (.d (.bool r208_1))))], [(1, some ⟨49, 0⟩)], [(0, [.d (.bool w__0), .d (.int .u64 w__1), .d (.int .u64 w__2), .d (.int .u64 w__3), .d (.int .u64 w__4), .d (.int .u64 w__5)])], 2⟩ [(0 : Int) ≤ i ∧ i < (((l).length : Nat) : Int), FnOK Go.Proofs.Try.prog 33 (f33_broughamref41_Fresh_in r_ (l.getD i.toNat 0)) (f33_broughamref41_Fresh_out r208_1)] (by kernel_rfl) ⟨g208_0, (f33_broughamref41_Fresh_ok n r_ (l.getD i.toNat 0) r208_1 cr208_1), trivial⟩ ?_
      obtain ⟨g209_0, h⟩ := ifS h
      obtain ⟨r209_1, cr209_1, h⟩ := bindS h
      rcases iteS h with ⟨b209_7, h⟩ | ⟨b209_7, h⟩
      · refine At.step hm ht ⟨[(4, .call [0] [] (f34_replay_Window_Fresh_out r209_1)), (7, .b true)], [true], [], [], []⟩ 10 ⟨[], [], [], 0⟩ [(0 : Int) ≤ i ∧ i < (((l).length : Nat) : Int), FnOK Go.Proofs.Try.prog 34 (f34_replay_Window_Fresh_in (l.getD i.toNat 0) w__0 w__1 w__2 w__3 w__4 w__5) (f34_replay_Window_Fresh_out r209_1), (!(r209_1.1 == r208_1)) = true, true = true] (by kernel_rfl) ⟨g209_0, (f34_replay_Window_Fresh_ok (l.getD i.toNat 0) w__0 w__1 w__2 w__3 w__4 w__5 r209_1 cr209_1), b209_7, rfl, trivial⟩ ?_
        have h := Option.some.inj h
        subst h
        have hk : o = f9_broughamlaw41_ReplayPlays_out false := hk
        subst hk
        exact At.fin hm ht ⟨[], [], [], [4], []⟩ [] (by kernel_rfl) trivial
      · obtain ⟨g209_2, h⟩ := ifS h
        obtain ⟨r209_3, cr209_3, h⟩ := bindS h
        rcases iteS h with ⟨b209_e0, h⟩ | ⟨b209_e0, h⟩
        · refine At.step hm ht ⟨[(4, .call [0] [] (f34_replay_Window_Fresh_out r209_1)), (7, .b false), (12, .call [0] [] (f26_replay_Window_Take_out r209_3))], [true], [], [], []⟩ 10 ⟨[], [], [], 0⟩ [(0 : Int) ≤ i ∧ i < (((l).length : Nat) : Int), FnOK Go.Proofs.Try.prog 34 (f34_replay_Window_Fresh_in (l.getD i.toNat 0) w__0 w__1 w__2 w__3 w__4 w__5) (f34_replay_Window_Fresh_out r209_1), (!(r209_1.1 == r208_1)) = false, (0 : Int) ≤ i ∧ i < (((l).length : Nat) : Int), FnOK Go.Proofs.Try.prog 26 (f26_replay_Window_Take_in (l.getD i.toNat 0) r209_1.2.1 r209_1.2.2.1 r209_1.2.2.2.1 r209_1.2.2.2.2.1 r209_1.2.2.2.2.2.1 r209_1.2.2.2.2.2.2) (f26_replay_Window_Take_out r209_3), (!(r209_3.1 == r208_1)) = true] (by kernel_rfl) ⟨g209_0, (f34_replay_Window_Fresh_ok (l.getD i.toNat 0) w__0 w__1 w__2 w__3 w__4 w__5 r209_1 cr209_1), b209_7, g209_2, (f26_replay_Window_Take_ok n (l.getD i.toNat 0) r209_1.2.1 r209_1.2.2.1 r209_1.2.2.2.1 r209_1.2.2.2.2.1 r209_1.2.2.2.2.2.1 r209_1.2.2.2.2.2.2 r209_3 cr209_3), b209_e0, trivial⟩ ?_
          have h := Option.some.inj h
          subst h
          have hk : o = f9_broughamlaw41_ReplayPlays_out false := hk
          subst hk
          exact At.fin hm ht ⟨[], [], [], [4], []⟩ [] (by kernel_rfl) trivial
        · refine At.step hm ht ⟨[(4, .call [0] [] (f34_replay_Window_Fresh_out r209_1)), (7, .b false), (12, .call [0] [] (f26_replay_Window_Take_out r209_3))], [false], [], [0, 1, 5, 6, 7, 8], [0, 1]⟩ 11 ⟨[(0, .one (.c (.d (.sl (.int .u64) l)))), (1, .one (.c (.d (.int .u64 x)))), (5, .one (.c (.ptr 0 0))), (6, .one (.c (.own 1 (.int .u64) r_))), (7, .one (.c (.d (.int .i64 i)))), (8, .one (.c (.d (.bool r208_1))))], [(1, some ⟨49, 0⟩)], [(0, [.d (.bool r209_3.2.1), .d (.int .u64 r209_3.2.2.1), .d (.int .u64 r209_3.2.2.2.1), .d (.int .u64 r209_3.2.2.2.2.1), .d (.int .u64 r209_3.2.2.2.2.2.1), .d (.int .u64 r209_3.2.2.2.2.2.2)])], 2⟩ [(0 : Int) ≤ i ∧ i < (((l).length : Nat) : Int), FnOK Go.Proofs.Try.prog 34 (f34_replay_Window_Fresh_in (l.getD i.toNat 0) w__0 w__1 w__2 w__3 w__4 w__5) (f34_replay_Window_Fresh_out r209_1), (!(r209_1.1 == r208_1)) = false, (0 : Int) ≤ i ∧ i < (((l).length : Nat) : Int), FnOK Go.Proofs.Try.prog 26 (f26_replay_Window_Take_in (l.getD i.toNat 0) r209_1.2.1 r209_1.2.2.1 r209_1.2.2.2.1 r209_1.2.2.2.2.1 r209_1.2.2.2.2.2.1 r209_1.2.2.2.2.2.2) (f26_replay_Window_Take_out r209_3), (!(r209_3.1 == r208_1)) = false] (by kernel_rfl) ⟨g209_0, (f34_replay_Window_Fresh_ok (l.getD i.toNat 0) w__0 w__1 w__2 w__3 w__4 w__5 r209_1 cr209_1), b209_7, g209_2, (f26_replay_Window_Take_ok n (l.getD i.toNat 0) r209_1.2.1 r209_1.2.2.1 r209_1.2.2.2.1 r209_1.2.2.2.2.1 r209_1.2.2.2.2.2.1 r209_1.2.2.2.2.2.2 r209_3 cr209_3), b209_e0, trivial⟩ ?_
          rcases iteS h with ⟨b212_e0, h⟩ | ⟨b212_e0, h⟩
          · refine At.step hm ht ⟨[], [true], [], [0, 1, 5, 6, 7], [0, 1]⟩ 12 ⟨[(0, .one (.c (.d (.sl (.int .u64) l)))), (1, .one (.c (.d (.int .u64 x)))), (5, .one (.c (.ptr 0 0))), (6, .one (.c (.own 1 (.int .u64) r_))), (7, .one (.c (.d (.int .i64 i))))], [(1, some ⟨49, 0⟩)], [(0, [.d (.bool r209_3.2.1), .d (.int .u64 r209_3.2.2.1), .d (.int .u64 r209_3.2.2.2.1), .d (.int .u64 r209_3.2.2.2.2.1), .d (.int .u64 r209_3.2.2.2.2.2.1), .d (.int .u64 r209_3.2.2.2.2.2.2)])], 2⟩ [r208_1 = true] (by kernel_rfl) ⟨b212_e0, trivial⟩ ?_
            obtain ⟨g213_0, h⟩ := ifS h
            obtain ⟨g213_1, h⟩ := ifS h
            refine At.step hm ht ⟨[], [], [], [0, 1, 5, 6, 7], [0, 8]⟩ 13 ⟨[(0, .one (.c (.d (.sl (.int .u64) l)))), (1, .one (.c (.d (.int .u64 x)))), (5, .one (.c (.ptr 0 0))), (6, .one (.c (.own 1 (.int .u64) (r_ ++ [(l.getD i.toNat 0)])))), (7, .one (.c (.d (.int .i64 i))))], [(1, some ⟨49, 0⟩)], [(0, [.d (.bool r209_3.2.1), .d (.int .u64 r209_3.2.2.1), .d (.int .u64 r209_3.2.2.2.1), .d (.int .u64 r209_3.2.2.2.2.1), .d (.int .u64 r209_3.2.2.2.2.2.1), .d (.int .u64 r209_3.2.2.2.2.2.2)])], 2⟩ [(0 : Int) ≤ i ∧ i < (((l).length : Nat) : Int), r_.length + [(l.getD i.toNat 0)].length ≤ maxLen ∧ (r_.length + [(l.getD i.toNat 0)].length) * 8 ≤ 140737488355328] (by kernel_rfl) ⟨g213_0, g213_1, trivial⟩ ?_
            obtain ⟨r214_0, cr214_0, h⟩ := bindS h
            refine At.step hm ht ⟨[(0, .call [0] [] (f35_replay_Window_Top_out r214_0))], [], [], [0, 1, 5, 6, 7, 9, 10], [0, 1]⟩ 14 ⟨[(0, .one (.c (.d (.sl (.int .u64) l)))), (1, .one (.c (.d (.int .u64 x)))), (5, .one (.c (.ptr 0 0))), (6, .one (.c (.own 1 (.int .u64) (r_ ++ [(l.getD i.toNat 0)])))), (7, .one (.c (.d (.int .i64 i)))), (9, .one (.c (.d (.int .u64 r214_0.1)))), (10, .one (.c (.d (.bool r214_0.2.1))))], [(1, some ⟨49, 0⟩)], [(0, [.d (.bool r214_0.2.2.1), .d (.int .u64 r214_0.2.2.2.1), .d (.int .u64 r214_0.2.2.2.2.1), .d (.int .u64 r214_0.2.2.2.2.2.1), .d (.int .u64 r214_0.2.2.2.2.2.2.1), .d (.int .u64 r214_0.2.2.2.2.2.2.2)])], 2⟩ [FnOK Go.Proofs.Try.prog 35 (f35_replay_Window_Top_in r209_3.2.1 r209_3.2.2.1 r209_3.2.2.2.1 r209_3.2.2.2.2.1 r209_3.2.2.2.2.2.1 r209_3.2.2.2.2.2.2) (f35_replay_Window_Top_out r214_0)] (by kernel_rfl) ⟨(f35_replay_Window_Top_ok r209_3.2.1 r209_3.2.2.1 r209_3.2.2.2.1 r209_3.2.2.2.2.1 r209_3.2.2.2.2.2.1 r209_3.2.2.2.2.2.2 r214_0 cr214_0), trivial⟩ ?_
            obtain ⟨r215_0, cr215_0, h⟩ := bindS h
            refine At.step hm ht ⟨[(1, .call [] [] (f36_broughamref41_Top_out r215_0))], [], [], [0, 1, 5, 6, 7, 9, 10, 11, 12], [0, 1]⟩ 15 ⟨[(0, .one (.c (.d (.sl (.int .u64) l)))), (1, .one (.c (.d (.int .u64 x)))), (5, .one (.c (.ptr 0 0))), (6, .one (.c (.own 1 (.int .u64) (r_ ++ [(l.getD i.toNat 0)])))), (7, .one (.c (.d (.int .i64 i)))), (9, .one (.c (.d (.int .u64 r214_0.1)))), (10, .one (.c (.d (.bool r214_0.2.1)))), (11, .one (.c (.d (.int .u64 r215_0.1)))), (12, .one (.c (.d (.bool r215_0.2))))], [(1, some ⟨49, 0⟩)], [(0, [.d (.bool r214_0.2.2.1), .d (.int .u64 r214_0.2.2.2.1), .d (.int .u64 r214_0.2.2.2.2.1), .d (.int .u64 r214_0.2.2.2.2.2.1), .d (.int .u64 r214_0.2.2.2.2.2.2.1), .d (.int .u64 r214_0.2.2.2.2.2.2.2)])], 2⟩ [FnOK Go.Proofs.Try.prog 36 (f36_broughamref41_Top_in (r_ ++ [(l.getD i.toNat 0)])) (f36_broughamref41_Top_out r215_0)] (by kernel_rfl) ⟨(f36_broughamref41_Top_ok n (r_ ++ [(l.getD i.toNat 0)]) r215_0 cr215_0), trivial⟩ ?_
            obtain ⟨r216_0, cr216_0, h⟩ := bindS h
            refine At.step hm ht ⟨[(1, .call [] [] (f37_broughamref41_Many_out r216_0))], [], [], [0, 1, 5, 6, 7, 9, 10, 11, 12, 13, 14], [0, 1]⟩ 16 ⟨[(0, .one (.c (.d (.sl (.int .u64) l)))), (1, .one (.c (.d (.int .u64 x)))), (5, .one (.c (.ptr 0 0))), (6, .one (.c (.own 1 (.int .u64) (r_ ++ [(l.getD i.toNat 0)])))), (7, .one (.c (.d (.int .i64 i)))), (9, .one (.c (.d (.int .u64 r214_0.1)))), (10, .one (.c (.d (.bool r214_0.2.1)))), (11, .one (.c (.d (.int .u64 r215_0.1)))), (12, .one (.c (.d (.bool r215_0.2)))), (13, .one (.c (.d (.int .i64 r216_0.1)))), (14, .one (.c (.d (.int .i64 r216_0.2))))], [(1, some ⟨49, 0⟩)], [(0, [.d (.bool r214_0.2.2.1), .d (.int .u64 r214_0.2.2.2.1), .d (.int .u64 r214_0.2.2.2.2.1), .d (.int .u64 r214_0.2.2.2.2.2.1), .d (.int .u64 r214_0.2.2.2.2.2.2.1), .d (.int .u64 r214_0.2.2.2.2.2.2.2)])], 2⟩ [FnOK Go.Proofs.Try.prog 37 (f37_broughamref41_Many_in (r_ ++ [(l.getD i.toNat 0)])) (f37_broughamref41_Many_out r216_0)] (by kernel_rfl) ⟨(f37_broughamref41_Many_ok n (r_ ++ [(l.getD i.toNat 0)]) r216_0 cr216_0), trivial⟩ ?_
            rcases iteS h with ⟨b217_3, h⟩ | ⟨b217_3, h⟩
            · refine At.step hm ht ⟨[(3, .b true)], [true], [], [], []⟩ 17 ⟨[], [], [], 0⟩ [((r214_0.1 : Int) != r215_0.1) = true, true = true] (by kernel_rfl) ⟨b217_3, rfl, trivial⟩ ?_
              have h := Option.some.inj h
              subst h
              have hk : o = f9_broughamlaw41_ReplayPlays_out false := hk
              subst hk
              exact At.fin hm ht ⟨[], [], [], [4], []⟩ [] (by kernel_rfl) trivial
            · rcases iteS h with ⟨b217_8, h⟩ | ⟨b217_8, h⟩
              · refine At.step hm ht ⟨[(3, .b false), (8, .b true)], [true], [], [], []⟩ 17 ⟨[], [], [], 0⟩ [((r214_0.1 : Int) != r215_0.1) = false, (!(r214_0.2.1 == r215_0.2)) = true, true = true] (by kernel_rfl) ⟨b217_3, b217_8, rfl, trivial⟩ ?_
                have h := Option.some.inj h
                subst h
                have hk : o = f9_broughamlaw41_ReplayPlays_out false := hk
                subst hk
                exact At.fin hm ht ⟨[], [], [], [4], []⟩ [] (by kernel_rfl) trivial
              · obtain ⟨r217_0, cr217_0, h⟩ := bindS h
                rcases iteS h with ⟨b217_13, h⟩ | ⟨b217_13, h⟩
                · refine At.step hm ht ⟨[(3, .b false), (8, .b false), (9, .call [0] [] (f38_replay_Window_Many_out r217_0)), (13, .b true)], [true], [], [], []⟩ 17 ⟨[], [], [], 0⟩ [((r214_0.1 : Int) != r215_0.1) = false, (!(r214_0.2.1 == r215_0.2)) = false, FnOK Go.Proofs.Try.prog 38 (f38_replay_Window_Many_in r214_0.2.2.1 r214_0.2.2.2.1 r214_0.2.2.2.2.1 r214_0.2.2.2.2.2.1 r214_0.2.2.2.2.2.2.1 r214_0.2.2.2.2.2.2.2) (f38_replay_Window_Many_out r217_0), ((r217_0.1 : Int) != r216_0.1) = true, true = true] (by kernel_rfl) ⟨b217_3, b217_8, (f38_replay_Window_Many_ok n r214_0.2.2.1 r214_0.2.2.2.1 r214_0.2.2.2.2.1 r214_0.2.2.2.2.2.1 r214_0.2.2.2.2.2.2.1 r214_0.2.2.2.2.2.2.2 r217_0 cr217_0), b217_13, rfl, trivial⟩ ?_
                  have h := Option.some.inj h
                  subst h
                  have hk : o = f9_broughamlaw41_ReplayPlays_out false := hk
                  subst hk
                  exact At.fin hm ht ⟨[], [], [], [4], []⟩ [] (by kernel_rfl) trivial
                · obtain ⟨r217_1, cr217_1, h⟩ := bindS h
                  rcases iteS h with ⟨b217_18, h⟩ | ⟨b217_18, h⟩
                  · refine At.step hm ht ⟨[(3, .b false), (8, .b false), (9, .call [0] [] (f38_replay_Window_Many_out r217_0)), (13, .b false), (14, .call [0] [] (f39_replay_Window_Missing_out r217_1)), (18, .b true)], [true], [], [], []⟩ 17 ⟨[], [], [], 0⟩ [((r214_0.1 : Int) != r215_0.1) = false, (!(r214_0.2.1 == r215_0.2)) = false, FnOK Go.Proofs.Try.prog 38 (f38_replay_Window_Many_in r214_0.2.2.1 r214_0.2.2.2.1 r214_0.2.2.2.2.1 r214_0.2.2.2.2.2.1 r214_0.2.2.2.2.2.2.1 r214_0.2.2.2.2.2.2.2) (f38_replay_Window_Many_out r217_0), ((r217_0.1 : Int) != r216_0.1) = false, FnOK Go.Proofs.Try.prog 39 (f39_replay_Window_Missing_in r217_0.2.1 r217_0.2.2.1 r217_0.2.2.2.1 r217_0.2.2.2.2.1 r217_0.2.2.2.2.2.1 r217_0.2.2.2.2.2.2) (f39_replay_Window_Missing_out r217_1), ((r217_1.1 : Int) != r216_0.2) = true, true = true] (by kernel_rfl) ⟨b217_3, b217_8, (f38_replay_Window_Many_ok n r214_0.2.2.1 r214_0.2.2.2.1 r214_0.2.2.2.2.1 r214_0.2.2.2.2.2.1 r214_0.2.2.2.2.2.2.1 r214_0.2.2.2.2.2.2.2 r217_0 cr217_0), b217_13, (f39_replay_Window_Missing_ok n r217_0.2.1 r217_0.2.2.1 r217_0.2.2.2.1 r217_0.2.2.2.2.1 r217_0.2.2.2.2.2.1 r217_0.2.2.2.2.2.2 r217_1 cr217_1), b217_18, rfl, trivial⟩ ?_
                    have h := Option.some.inj h
                    subst h
                    have hk : o = f9_broughamlaw41_ReplayPlays_out false := hk
                    subst hk
                    exact At.fin hm ht ⟨[], [], [], [4], []⟩ [] (by kernel_rfl) trivial
                  · obtain ⟨r217_2, cr217_2, h⟩ := bindS h
                    obtain ⟨r217_3, cr217_3, h⟩ := bindS h
                    rcases iteS h with ⟨b217_e0, h⟩ | ⟨b217_e0, h⟩
                    · refine At.step hm ht ⟨[(3, .b false), (8, .b false), (9, .call [0] [] (f38_replay_Window_Many_out r217_0)), (13, .b false), (14, .call [0] [] (f39_replay_Window_Missing_out r217_1)), (18, .b false), (20, .call [0] [] (f34_replay_Window_Fresh_out r217_2)), (23, .call [] [] (f33_broughamref41_Fresh_out r217_3))], [true], [], [], []⟩ 17 ⟨[], [], [], 0⟩ [((r214_0.1 : Int) != r215_0.1) = false, (!(r214_0.2.1 == r215_0.2)) = false, FnOK Go.Proofs.Try.prog 38 (f38_replay_Window_Many_in r214_0.2.2.1 r214_0.2.2.2.1 r214_0.2.2.2.2.1 r214_0.2.2.2.2.2.1 r214_0.2.2.2.2.2.2.1 r214_0.2.2.2.2.2.2.2) (f38_replay_Window_Many_out r217_0), ((r217_0.1 : Int) != r216_0.1) = false, FnOK Go.Proofs.Try.prog 39 (f39_replay_Window_Missing_in r217_0.2.1 r217_0.2.2.1 r217_0.2.2.2.1 r217_0.2.2.2.2.1 r217_0.2.2.2.2.2.1 r217_0.2.2.2.2.2.2) (f39_replay_Window_Missing_out r217_1), ((r217_1.1 : Int) != r216_0.2) = false, FnOK Go.Proofs.Try.prog 34 (f34_replay_Window_Fresh_in x r217_1.2.1 r217_1.2.2.1 r217_1.2.2.2.1 r217_1.2.2.2.2.1 r217_1.2.2.2.2.2.1 r217_1.2.2.2.2.2.2) (f34_replay_Window_Fresh_out r217_2), FnOK Go.Proofs.Try.prog 33 (f33_broughamref41_Fresh_in (r_ ++ [(l.getD i.toNat 0)]) x) (f33_broughamref41_Fresh_out r217_3), (!(r217_2.1 == r217_3)) = true] (by kernel_rfl) ⟨b217_3, b217_8, (f38_replay_Window_Many_ok n r214_0.2.2.1 r214_0.2.2.2.1 r214_0.2.2.2.2.1 r214_0.2.2.2.2.2.1 r214_0.2.2.2.2.2.2.1 r214_0.2.2.2.2.2.2.2 r217_0 cr217_0), b217_13, (f39_replay_Window_Missing_ok n r217_0.2.1 r217_0.2.2.1 r217_0.2.2.2.1 r217_0.2.2.2.2.1 r217_0.2.2.2.2.2.1 r217_0.2.2.2.2.2.2 r217_1 cr217_1), b217_18, (f34_replay_Window_Fresh_ok x r217_1.2.1 r217_1.2.2.1 r217_1.2.2.2.1 r217_1.2.2.2.2.1 r217_1.2.2.2.2.2.1 r217_1.2.2.2.2.2.2 r217_2 cr217_2), (f33_broughamref41_Fresh_ok n (r_ ++ [(l.getD i.toNat 0)]) x r217_3 cr217_3), b217_e0, trivial⟩ ?_
                      have h := Option.some.inj h
                      subst h
                      have hk : o = f9_broughamlaw41_ReplayPlays_out false := hk
                      subst hk
                      exact At.fin hm ht ⟨[], [], [], [4], []⟩ [] (by kernel_rfl) trivial
                    · refine At.step hm ht ⟨[(3, .b false), (8, .b false), (9, .call [0] [] (f38_replay_Window_Many_out r217_0)), (13, .b false), (14, .call [0] [] (f39_replay_Window_Missing_out r217_1)), (18, .b false), (20, .call [0] [] (f34_replay_Window_Fresh_out r217_2)), (23, .call [] [] (f33_broughamref41_Fresh_out r217_3))], [false], [], [0, 1, 5, 6, 7], [0, 1]⟩ 7 ⟨[(0, .one (.c (.d (.sl (.int .u64) l)))), (1, .one (.c (.d (.int .u64 x)))), (5, .one (.c (.ptr 0 0))), (6, .one (.c (.own 1 (.int .u64) (r_ ++ [(l.getD i.toNat 0)])))), (7, .one (.c (.d (.int .i64 i))))], [(1, some ⟨49, 0⟩)], [(0, [.d (.bool r217_2.2.1), .d (.int .u64 r217_2.2.2.1), .d (.int .u64 r217_2.2.2.2.1), .d (.int .u64 r217_2.2.2.2.2.1), .d (.int .u64 r217_2.2.2.2.2.2.1), .d (.int .u64 r217_2.2.2.2.2.2.2)])], 2⟩ [((r214_0.1 : Int) != r215_0.1) = false, (!(r214_0.2.1 == r215_0.2)) = false, FnOK Go.Proofs.Try.prog 38 (f38_replay_Window_Many_in r214_0.2.2.1 r214_0.2.2.2.1 r214_0.2.2.2.2.1 r214_0.2.2.2.2.2.1 r214_0.2.2.2.2.2.2.1 r214_0.2.2.2.2.2.2.2) (f38_replay_Window_Many_out r217_0), ((r217_0.1 : Int) != r216_0.1) = false, FnOK Go.Proofs.Try.prog 39 (f39_replay_Window_Missing_in r217_0.2.1 r217_0.2.2.1 r217_0.2.2.2.1 r217_0.2.2.2.2.1 r217_0.2.2.2.2.2.1 r217_0.2.2.2.2.2.2) (f39_replay_Window_Missing_out r217_1), ((r217_1.1 : Int) != r216_0.2) = false, FnOK Go.Proofs.Try.prog 34 (f34_replay_Window_Fresh_in x r217_1.2.1 r217_1.2.2.1 r217_1.2.2.2.1 r217_1.2.2.2.2.1 r217_1.2.2.2.2.2.1 r217_1.2.2.2.2.2.2) (f34_replay_Window_Fresh_out r217_2), FnOK Go.Proofs.Try.prog 33 (f33_broughamref41_Fresh_in (r_ ++ [(l.getD i.toNat 0)]) x) (f33_broughamref41_Fresh_out r217_3), (!(r217_2.1 == r217_3)) = false] (by kernel_rfl) ⟨b217_3, b217_8, (f38_replay_Window_Many_ok n r214_0.2.2.1 r214_0.2.2.2.1 r214_0.2.2.2.2.1 r214_0.2.2.2.2.2.1 r214_0.2.2.2.2.2.2.1 r214_0.2.2.2.2.2.2.2 r217_0 cr217_0), b217_13, (f39_replay_Window_Missing_ok n r217_0.2.1 r217_0.2.2.1 r217_0.2.2.2.1 r217_0.2.2.2.2.1 r217_0.2.2.2.2.2.1 r217_0.2.2.2.2.2.2 r217_1 cr217_1), b217_18, (f34_replay_Window_Fresh_ok x r217_1.2.1 r217_1.2.2.1 r217_1.2.2.2.1 r217_1.2.2.2.2.1 r217_1.2.2.2.2.2.1 r217_1.2.2.2.2.2.2 r217_2 cr217_2), (f33_broughamref41_Fresh_ok n (r_ ++ [(l.getD i.toNat 0)]) x r217_3 cr217_3), b217_e0, trivial⟩ ?_
                      refine At.step hm ht ⟨[], [], [], [0, 1, 5, 6, 7], [0, 1]⟩ 6 ⟨[(0, .one (.c (.d (.sl (.int .u64) l)))), (1, .one (.c (.d (.int .u64 x)))), (5, .one (.c (.ptr 0 0))), (6, .one (.c (.own 1 (.int .u64) (r_ ++ [(l.getD i.toNat 0)])))), (7, .one (.c (.d (.int .i64 (IntKind.wrap .i64 (i + 1))))))], [(1, some ⟨49, 0⟩)], [(0, [.d (.bool r217_2.2.1), .d (.int .u64 r217_2.2.2.1), .d (.int .u64 r217_2.2.2.2.1), .d (.int .u64 r217_2.2.2.2.2.1), .d (.int .u64 r217_2.2.2.2.2.2.1), .d (.int .u64 r217_2.2.2.2.2.2.2)])], 2⟩ [] (by kernel_rfl) trivial ?_
                      exact ih l x (r_ ++ [(l.getD i.toNat 0)]) (IntKind.wrap .i64 (i + 1)) r217_2.2.1 r217_2.2.2.1 r217_2.2.2.2.1 r217_2.2.2.2.2.1 r217_2.2.2.2.2.2.1 r217_2.2.2.2.2.2.2 w h o hk
          · refine At.step hm ht ⟨[], [false], [], [0, 1, 5, 6, 7], [0, 1]⟩ 13 ⟨[(0, .one (.c (.d (.sl (.int .u64) l)))), (1, .one (.c (.d (.int .u64 x)))), (5, .one (.c (.ptr 0 0))), (6, .one (.c (.own 1 (.int .u64) r_))), (7, .one (.c (.d (.int .i64 i))))], [(1, some ⟨49, 0⟩)], [(0, [.d (.bool r209_3.2.1), .d (.int .u64 r209_3.2.2.1), .d (.int .u64 r209_3.2.2.2.1), .d (.int .u64 r209_3.2.2.2.2.1), .d (.int .u64 r209_3.2.2.2.2.2.1), .d (.int .u64 r209_3.2.2.2.2.2.2)])], 2⟩ [r208_1 = false] (by kernel_rfl) ⟨b212_e0, trivial⟩ ?_
            obtain ⟨r224_0, cr224_0, h⟩ := bindS h
            refine At.step hm ht ⟨[(0, .call [0] [] (f35_replay_Window_Top_out r224_0))], [], [], [0, 1, 5, 6, 7, 9, 10], [0, 1]⟩ 14 ⟨[(0, .one (.c (.d (.sl (.int .u64) l)))), (1, .one (.c (.d (.int .u64 x)))), (5, .one (.c (.ptr 0 0))), (6, .one (.c (.own 1 (.int .u64) r_))), (7, .one (.c (.d (.int .i64 i)))), (9, .one (.c (.d (.int .u64 r224_0.1)))), (10, .one (.c (.d (.bool r224_0.2.1))))], [(1, some ⟨49, 0⟩)], [(0, [.d (.bool r224_0.2.2.1), .d (.int .u64 r224_0.2.2.2.1), .d (.int .u64 r224_0.2.2.2.2.1), .d (.int .u64 r224_0.2.2.2.2.2.1), .d (.int .u64 r224_0.2.2.2.2.2.2.1), .d (.int .u64 r224_0.2.2.2.2.2.2.2)])], 2⟩ [FnOK Go.Proofs.Try.prog 35 (f35_replay_Window_Top_in r209_3.2.1 r209_3.2.2.1 r209_3.2.2.2.1 r209_3.2.2.2.2.1 r209_3.2.2.2.2.2.1 r209_3.2.2.2.2.2.2) (f35_replay_Window_Top_out r224_0)] (by kernel_rfl) ⟨(f35_replay_Window_Top_ok r209_3.2.1 r209_3.2.2.1 r209_3.2.2.2.1 r209_3.2.2.2.2.1 r209_3.2.2.2.2.2.1 r209_3.2.2.2.2.2.2 r224_0 cr224_0), trivial⟩ ?_
            obtain ⟨r225_0, cr225_0, h⟩ := bindS h
            refine At.step hm ht ⟨[(1, .call [] [] (f36_broughamref41_Top_out r225_0))], [], [], [0, 1, 5, 6, 7, 9, 10, 11, 12], [0, 1]⟩ 15 ⟨[(0, .one (.c (.d (.sl (.int .u64) l)))), (1, .one (.c (.d (.int .u64 x)))), (5, .one (.c (.ptr 0 0))), (6, .one (.c (.own 1 (.int .u64) r_))), (7, .one (.c (.d (.int .i64 i)))), (9, .one (.c (.d (.int .u64 r224_0.1)))), (10, .one (.c (.d (.bool r224_0.2.1)))), (11, .one (.c (.d (.int .u64 r225_0.1)))), (12, .one (.c (.d (.bool r225_0.2))))], [(1, some ⟨49, 0⟩)], [(0, [.d (.bool r224_0.2.2.1), .d (.int .u64 r224_0.2.2.2.1), .d (.int .u64 r224_0.2.2.2.2.1), .d (.int .u64 r224_0.2.2.2.2.2.1), .d (.int .u64 r224_0.2.2.2.2.2.2.1), .d (.int .u64 r224_0.2.2.2.2.2.2.2)])], 2⟩ [FnOK Go.Proofs.Try.prog 36 (f36_broughamref41_Top_in r_) (f36_broughamref41_Top_out r225_0)] (by kernel_rfl) ⟨(f36_broughamref41_Top_ok n r_ r225_0 cr225_0), trivial⟩ ?_
            obtain ⟨r226_0, cr226_0, h⟩ := bindS h
            refine At.step hm ht ⟨[(1, .call [] [] (f37_broughamref41_Many_out r226_0))], [], [], [0, 1, 5, 6, 7, 9, 10, 11, 12, 13, 14], [0, 1]⟩ 16 ⟨[(0, .one (.c (.d (.sl (.int .u64) l)))), (1, .one (.c (.d (.int .u64 x)))), (5, .one (.c (.ptr 0 0))), (6, .one (.c (.own 1 (.int .u64) r_))), (7, .one (.c (.d (.int .i64 i)))), (9, .one (.c (.d (.int .u64 r224_0.1)))), (10, .one (.c (.d (.bool r224_0.2.1)))), (11, .one (.c (.d (.int .u64 r225_0.1)))), (12, .one (.c (.d (.bool r225_0.2)))), (13, .one (.c (.d (.int .i64 r226_0.1)))), (14, .one (.c (.d (.int .i64 r226_0.2))))], [(1, some ⟨49, 0⟩)], [(0, [.d (.bool r224_0.2.2.1), .d (.int .u64 r224_0.2.2.2.1), .d (.int .u64 r224_0.2.2.2.2.1), .d (.int .u64 r224_0.2.2.2.2.2.1), .d (.int .u64 r224_0.2.2.2.2.2.2.1), .d (.int .u64 r224_0.2.2.2.2.2.2.2)])], 2⟩ [FnOK Go.Proofs.Try.prog 37 (f37_broughamref41_Many_in r_) (f37_broughamref41_Many_out r226_0)] (by kernel_rfl) ⟨(f37_broughamref41_Many_ok n r_ r226_0 cr226_0), trivial⟩ ?_
            rcases iteS h with ⟨b227_3, h⟩ | ⟨b227_3, h⟩
            · refine At.step hm ht ⟨[(3, .b true)], [true], [], [], []⟩ 17 ⟨[], [], [], 0⟩ [((r224_0.1 : Int) != r225_0.1) = true, true = true] (by kernel_rfl) ⟨b227_3, rfl, trivial⟩ ?_
              have h := Option.some.inj h
              subst h
              have hk : o = f9_broughamlaw41_ReplayPlays_out false := hk
              subst hk
              exact At.fin hm ht ⟨[], [], [], [4], []⟩ [] (by kernel_rfl) trivial
            · rcases iteS h with ⟨b227_8, h⟩ | ⟨b227_8, h⟩
              · refine At.step hm ht ⟨[(3, .b false), (8, .b true)], [true], [], [], []⟩ 17 ⟨[], [], [], 0⟩ [((r224_0.1 : Int) != r225_0.1) = false, (!(r224_0.2.1 == r225_0.2)) = true, true = true] (by kernel_rfl) ⟨b227_3, b227_8, rfl, trivial⟩ ?_
                have h := Option.some.inj h
                subst h
                have hk : o = f9_broughamlaw41_ReplayPlays_out false := hk
                subst hk
                exact At.fin hm ht ⟨[], [], [], [4], []⟩ [] (by kernel_rfl) trivial
              · obtain ⟨r227_0, cr227_0, h⟩ := bindS h
                rcases iteS h with ⟨b227_13, h⟩ | ⟨b227_13, h⟩
                · refine At.step hm ht ⟨[(3, .b false), (8, .b false), (9, .call [0] [] (f38_replay_Window_Many_out r227_0)), (13, .b true)], [true], [], [], []⟩ 17 ⟨[], [], [], 0⟩ [((r224_0.1 : Int) != r225_0.1) = false, (!(r224_0.2.1 == r225_0.2)) = false, FnOK Go.Proofs.Try.prog 38 (f38_replay_Window_Many_in r224_0.2.2.1 r224_0.2.2.2.1 r224_0.2.2.2.2.1 r224_0.2.2.2.2.2.1 r224_0.2.2.2.2.2.2.1 r224_0.2.2.2.2.2.2.2) (f38_replay_Window_Many_out r227_0), ((r227_0.1 : Int) != r226_0.1) = true, true = true] (by kernel_rfl) ⟨b227_3, b227_8, (f38_replay_Window_Many_ok n r224_0.2.2.1 r224_0.2.2.2.1 r224_0.2.2.2.2.1 r224_0.2.2.2.2.2.1 r224_0.2.2.2.2.2.2.1 r224_0.2.2.2.2.2.2.2 r227_0 cr227_0), b227_13, rfl, trivial⟩ ?_
                  have h := Option.some.inj h
                  subst h
                  have hk : o = f9_broughamlaw41_ReplayPlays_out false := hk
                  subst hk
                  exact At.fin hm ht ⟨[], [], [], [4], []⟩ [] (by kernel_rfl) trivial
                · obtain ⟨r227_1, cr227_1, h⟩ := bindS h
                  rcases iteS h with ⟨b227_18, h⟩ | ⟨b227_18, h⟩
                  · refine At.step hm ht ⟨[(3, .b false), (8, .b false), (9, .call [0] [] (f38_replay_Window_Many_out r227_0)), (13, .b false), (14, .call [0] [] (f39_replay_Window_Missing_out r227_1)), (18, .b true)], [true], [], [], []⟩ 17 ⟨[], [], [], 0⟩ [((r224_0.1 : Int) != r225_0.1) = false, (!(r224_0.2.1 == r225_0.2)) = false, FnOK Go.Proofs.Try.prog 38 (f38_replay_Window_Many_in r224_0.2.2.1 r224_0.2.2.2.1 r224_0.2.2.2.2.1 r224_0.2.2.2.2.2.1 r224_0.2.2.2.2.2.2.1 r224_0.2.2.2.2.2.2.2) (f38_replay_Window_Many_out r227_0), ((r227_0.1 : Int) != r226_0.1) = false, FnOK Go.Proofs.Try.prog 39 (f39_replay_Window_Missing_in r227_0.2.1 r227_0.2.2.1 r227_0.2.2.2.1 r227_0.2.2.2.2.1 r227_0.2.2.2.2.2.1 r227_0.2.2.2.2.2.2) (f39_replay_Window_Missing_out r227_1), ((r227_1.1 : Int) != r226_0.2) = true, true = true] (by kernel_rfl) ⟨b227_3, b227_8, (f38_replay_Window_Many_ok n r224_0.2.2.1 r224_0.2.2.2.1 r224_0.2.2.2.2.1 r224_0.2.2.2.2.2.1 r224_0.2.2.2.2.2.2.1 r224_0.2.2.2.2.2.2.2 r227_0 cr227_0), b227_13, (f39_replay_Window_Missing_ok n r227_0.2.1 r227_0.2.2.1 r227_0.2.2.2.1 r227_0.2.2.2.2.1 r227_0.2.2.2.2.2.1 r227_0.2.2.2.2.2.2 r227_1 cr227_1), b227_18, rfl, trivial⟩ ?_
                    have h := Option.some.inj h
                    subst h
                    have hk : o = f9_broughamlaw41_ReplayPlays_out false := hk
                    subst hk
                    exact At.fin hm ht ⟨[], [], [], [4], []⟩ [] (by kernel_rfl) trivial
                  · obtain ⟨r227_2, cr227_2, h⟩ := bindS h
                    obtain ⟨r227_3, cr227_3, h⟩ := bindS h
                    rcases iteS h with ⟨b227_e0, h⟩ | ⟨b227_e0, h⟩
                    · refine At.step hm ht ⟨[(3, .b false), (8, .b false), (9, .call [0] [] (f38_replay_Window_Many_out r227_0)), (13, .b false), (14, .call [0] [] (f39_replay_Window_Missing_out r227_1)), (18, .b false), (20, .call [0] [] (f34_replay_Window_Fresh_out r227_2)), (23, .call [] [] (f33_broughamref41_Fresh_out r227_3))], [true], [], [], []⟩ 17 ⟨[], [], [], 0⟩ [((r224_0.1 : Int) != r225_0.1) = false, (!(r224_0.2.1 == r225_0.2)) = false, FnOK Go.Proofs.Try.prog 38 (f38_replay_Window_Many_in r224_0.2.2.1 r224_0.2.2.2.1 r224_0.2.2.2.2.1 r224_0.2.2.2.2.2.1 r224_0.2.2.2.2.2.2.1 r224_0.2.2.2.2.2.2.2) (f38_replay_Window_Many_out r227_0), ((r227_0.1 : Int) != r226_0.1) = false, FnOK Go.Proofs.Try.prog 39 (f39_replay_Window_Missing_in r227_0.2.1 r227_0.2.2.1 r227_0.2.2.2.1 r227_0.2.2.2.2.1 r227_0.2.2.2.2.2.1 r227_0.2.2.2.2.2.2) (f39_replay_Window_Missing_out r227_1), ((r227_1.1 : Int) != r226_0.2) = false, FnOK Go.Proofs.Try.prog 34 (f34_replay_Window_Fresh_in x r227_1.2.1 r227_1.2.2.1 r227_1.2.2.2.1 r227_1.2.2.2.2.1 r227_1.2.2.2.2.2.1 r227_1.2.2.2.2.2.2) (f34_replay_Window_Fresh_out r227_2), FnOK Go.Proofs.Try.prog 33 (f33_broughamref41_Fresh_in r_ x) (f33_broughamref41_Fresh_out r227_3), (!(r227_2.1 == r227_3)) = true] (by kernel_rfl) ⟨b227_3, b227_8, (f38_replay_Window_Many_ok n r224_0.2.2.1 r224_0.2.2.2.1 r224_0.2.2.2.2.1 r224_0.2.2.2.2.2.1 r224_0.2.2.2.2.2.2.1 r224_0.2.2.2.2.2.2.2 r227_0 cr227_0), b227_13, (f39_replay_Window_Missing_ok n r227_0.2.1 r227_0.2.2.1 r227_0.2.2.2.1 r227_0.2.2.2.2.1 r227_0.2.2.2.2.2.1 r227_0.2.2.2.2.2.2 r227_1 cr227_1), b227_18, (f34_replay_Window_Fresh_ok x r227_1.2.1 r227_1.2.2.1 r227_1.2.2.2.1 r227_1.2.2.2.2.1 r227_1.2.2.2.2.2.1 r227_1.2.2.2.2.2.2 r227_2 cr227_2), (f33_broughamref41_Fresh_ok n r_ x r227_3 cr227_3), b227_e0, trivial⟩ ?_
                      have h := Option.some.inj h
                      subst h
                      have hk : o = f9_broughamlaw41_ReplayPlays_out false := hk
                      subst hk
                      exact At.fin hm ht ⟨[], [], [], [4], []⟩ [] (by kernel_rfl) trivial
                    · refine At.step hm ht ⟨[(3, .b false), (8, .b false), (9, .call [0] [] (f38_replay_Window_Many_out r227_0)), (13, .b false), (14, .call [0] [] (f39_replay_Window_Missing_out r227_1)), (18, .b false), (20, .call [0] [] (f34_replay_Window_Fresh_out r227_2)), (23, .call [] [] (f33_broughamref41_Fresh_out r227_3))], [false], [], [0, 1, 5, 6, 7], [0, 1]⟩ 7 ⟨[(0, .one (.c (.d (.sl (.int .u64) l)))), (1, .one (.c (.d (.int .u64 x)))), (5, .one (.c (.ptr 0 0))), (6, .one (.c (.own 1 (.int .u64) r_))), (7, .one (.c (.d (.int .i64 i))))], [(1, some ⟨49, 0⟩)], [(0, [.d (.bool r227_2.2.1), .d (.int .u64 r227_2.2.2.1), .d (.int .u64 r227_2.2.2.2.1), .d (.int .u64 r227_2.2.2.2.2.1), .d (.int .u64 r227_2.2.2.2.2.2.1), .d (.int .u64 r227_2.2.2.2.2.2.2)])], 2⟩ [((r224_0.1 : Int) != r225_0.1) = false, (!(r224_0.2.1 == r225_0.2)) = false, FnOK Go.Proofs.Try.prog 38 (f38_replay_Window_Many_in r224_0.2.2.1 r224_0.2.2.2.1 r224_0.2.2.2.2.1 r224_0.2.2.2.2.2.1 r224_0.2.2.2.2.2.2.1 r224_0.2.2.2.2.2.2.2) (f38_replay_Window_Many_out r227_0), ((r227_0.1 : Int) != r226_0.1) = false, FnOK Go.Proofs.Try.prog 39 (f39_replay_Window_Missing_in r227_0.2.1 r227_0.2.2.1 r227_0.2.2.2.1 r227_0.2.2.2.2.1 r227_0.2.2.2.2.2.1 r227_0.2.2.2.2.2.2) (f39_replay_Window_Missing_out r227_1), ((r227_1.1 : Int) != r226_0.2) = false, FnOK Go.Proofs.Try.prog 34 (f34_replay_Window_Fresh_in x r227_1.2.1 r227_1.2.2.1 r227_1.2.2.2.1 r227_1.2.2.2.2.1 r227_1.2.2.2.2.2.1 r227_1.2.2.2.2.2.2) (f34_replay_Window_Fresh_out r227_2), FnOK Go.Proofs.Try.prog 33 (f33_broughamref41_Fresh_in r_ x) (f33_broughamref41_Fresh_out r227_3), (!(r227_2.1 == r227_3)) = false] (by kernel_rfl) ⟨b227_3, b227_8, (f38_replay_Window_Many_ok n r224_0.2.2.1 r224_0.2.2.2.1 r224_0.2.2.2.2.1 r224_0.2.2.2.2.2.1 r224_0.2.2.2.2.2.2.1 r224_0.2.2.2.2.2.2.2 r227_0 cr227_0), b227_13, (f39_replay_Window_Missing_ok n r227_0.2.1 r227_0.2.2.1 r227_0.2.2.2.1 r227_0.2.2.2.2.1 r227_0.2.2.2.2.2.1 r227_0.2.2.2.2.2.2 r227_1 cr227_1), b227_18, (f34_replay_Window_Fresh_ok x r227_1.2.1 r227_1.2.2.1 r227_1.2.2.2.1 r227_1.2.2.2.2.1 r227_1.2.2.2.2.2.1 r227_1.2.2.2.2.2.2 r227_2 cr227_2), (f33_broughamref41_Fresh_ok n r_ x r227_3 cr227_3), b227_e0, trivial⟩ ?_
                      refine At.step hm ht ⟨[], [], [], [0, 1, 5, 6, 7], [0, 1]⟩ 6 ⟨[(0, .one (.c (.d (.sl (.int .u64) l)))), (1, .one (.c (.d (.int .u64 x)))), (5, .one (.c (.ptr 0 0))), (6, .one (.c (.own 1 (.int .u64) r_))), (7, .one (.c (.d (.int .i64 (IntKind.wrap .i64 (i + 1))))))], [(1, some ⟨49, 0⟩)], [(0, [.d (.bool r227_2.2.1), .d (.int .u64 r227_2.2.2.1), .d (.int .u64 r227_2.2.2.2.1), .d (.int .u64 r227_2.2.2.2.2.1), .d (.int .u64 r227_2.2.2.2.2.2.1), .d (.int .u64 r227_2.2.2.2.2.2.2)])], 2⟩ [] (by kernel_rfl) trivial ?_
                      exact ih l x r_ (IntKind.wrap .i64 (i + 1)) r227_2.2.1 r227_2.2.2.1 r227_2.2.2.2.1 r227_2.2.2.2.2.1 r227_2.2.2.2.2.2.1 r227_2.2.2.2.2.2.2 w h o hk
    · refine At.step hm ht ⟨[], [false], [], [], []⟩ 18 ⟨[], [], [], 0⟩ [(decide ((i : Int) < ((l.length : Nat) : Int))) = false] (by kernel_rfl) ⟨b207_e0, trivial⟩ ?_
      have h := Option.some.inj h
      subst h
      exact hk
def f9_broughamlaw41_ReplayPlays (n : Nat) (l : List Int) (x : Int) : Option (Bool) :=
  if (decide ((((l.length : Nat) : Int) : Int) > 150)) = true then
    some true
  else
    (f9_broughamlaw41_ReplayPlays_L6 n l x [] 0 false 0 0 0 0 0).bind fun w234 =>
    match w234 with
    | .inl e235 =>
      some e235
    | .inr e236 =>
      (f27_broughamlaw41_alive n).bind fun r237_0 =>
      some r237_0
theorem f9_broughamlaw41_ReplayPlays_ok (n : Nat) (l : List Int) (x : Int) (r : Bool) (h : f9_broughamlaw41_ReplayPlays n l x = some r) : FnOK Go.Proofs.Try.prog 9 (f9_broughamlaw41_ReplayPlays_in l x) (f9_broughamlaw41_ReplayPlays_out r) := by
  unfold f9_broughamlaw41_ReplayPlays at h
  refine At.fn (r := 0) Go.Proofs.Try.func9 rfl (by kernel_rfl) rfl rfl (by kernel_rfl) ?_
  show At Go.Proofs.Try.prog Go.Proofs.Try.f9 0 0 ⟨[(0, .one (.c (.d (.sl (.int .u64) l)))), (1, .one (.c (.d (.int .u64 x))))], [], [], 0⟩ _
  refine At.step hm ht ⟨[], [], [], [0, 1], []⟩ 1 ⟨[(0, .one (.c (.d (.sl (.int .u64) l)))), (1, .one (.c (.d (.int .u64 x))))], [], [], 0⟩ [] (by kernel_rfl) trivial ?_
  rcases iteS h with ⟨b202_e0, h⟩ | ⟨b202_e0, h⟩
  · refine At.step hm ht ⟨[], [true], [], [], []⟩ 2 ⟨[], [], [], 0⟩ [(decide ((((l.length : Nat) : Int) : Int) > 150)) = true] (by kernel_rfl) ⟨b202_e0, trivial⟩ ?_
    have h := Option.some.inj h
    subst h
    exact At.fin hm ht ⟨[], [], [], [4], []⟩ [] (by kernel_rfl) trivial
  · refine At.step hm ht ⟨[], [false], [], [0, 1], []⟩ 3 ⟨[(0, .one (.c (.d (.sl (.int .u64) l)))), (1, .one (.c (.d (.int .u64 x))))], [], [], 0⟩ [(decide ((((l.length : Nat) : Int) : Int) > 150)) = false] (by kernel_rfl) ⟨b202_e0, trivial⟩ ?_
    refine At.step hm ht ⟨[], [], [], [0, 1, 5], [1]⟩ 4 ⟨[(0, .one (.c (.d (.sl (.int .u64) l)))), (1, .one (.c (.d (.int .u64 x)))), (5, .one (.c (.ptr 0 0)))], [], [(0, [.d (.bool false), .d (.int .u64 0), .d (.int .u64 0), .d (.int .u64 0), .d (.int .u64 0), .d (.int .u64 0)])], 1⟩ [0 + 6 ≤ 6] (by kernel_rfl) ⟨(by decide), trivial⟩ ?_
    refine At.step hm ht ⟨[], [], [], [0, 1, 5, 6], [0]⟩ 5 ⟨[(0, .one (.c (.d (.sl (.int .u64) l)))), (1, .one (.c (.d (.int .u64 x)))), (5, .one (.c (.ptr 0 0))), (6, .one (.c (.d (.sl .unit []))))], [], [(0, [.d (.bool false), .d (.int .u64 0), .d (.int .u64 0), .d (.int .u64 0), .d (.int .u64 0), .d (.int .u64 0)])], 1⟩ [] (by kernel_rfl) trivial ?_
    refine At.step hm ht ⟨[], [], [.nil false 6 0 (.int .u64) (some 49)], [0, 1, 5, 6, 7], [0, 2]⟩ 6 ⟨[(0, .one (.c (.d (.sl (.int .u64) l)))), (1, .one (.c (.d (.int .u64 x)))), (5, .one (.c (.ptr 0 0))), (6, .one (.c (.own 1 (.int .u64) []))), (7, .one (.c (.d (.int .i64 0))))], [(1, some ⟨49, 0⟩)], [(0, [.d (.bool false), .d (.int .u64 0), .d (.int .u64 0), .d (.int .u64 0), .d (.int .u64 0), .d (.int .u64 0)])], 2⟩ [] (by kernel_rfl) trivial ?_
    obtain ⟨w234, cw234, h⟩ := bindS h
    refine f9_broughamlaw41_ReplayPlays_L6_ok n l x [] 0 false 0 0 0 0 0 w234 cw234 _ ?_
    rcases w234 with e235 | e236
    · have h := Option.some.inj h
      subst h
      rfl
    · show At Go.Proofs.Try.prog Go.Proofs.Try.f9 0 18 ⟨[], [], [], 0⟩ _
      obtain ⟨r237_0, cr237_0, h⟩ := bindS h
      have h := Option.some.inj h
      subst h
      exact At.fin hm ht ⟨[(0, .call [] [] (f27_broughamlaw41_alive_out r237_0))], [], [], [4], []⟩ [FnOK Go.Proofs.Try.prog 27 (f27_broughamlaw41_alive_in) (f27_broughamlaw41_alive_out r237_0)] (by kernel_rfl) ⟨(f27_broughamlaw41_alive_ok n r237_0 cr237_0), trivial⟩
end Go.Proofs.YtdcnjkjgmagjmaaF41
