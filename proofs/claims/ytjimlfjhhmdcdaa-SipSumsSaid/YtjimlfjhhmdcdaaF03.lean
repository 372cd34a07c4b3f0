/- What the functions compute, and that they do: printed by a program of this session (zgen.py), proved by Zed. -/
import Derived.Test.YtjimlfjhhmdcdaaProg
import Derived.Test.YtjimlfjhhmdcdaaZedY
namespace Go.Proofs.YtjimlfjhhmdcdaaF03
open Go Zed
set_option maxRecDepth 100000
set_option linter.unusedVariables false
def tab : Tab := [(3, ⟨.int .i64, 1, 8, [.int .i64 0], some (.int .i64), none⟩), (5, ⟨.int .u8, 1, 1, [.int .u8 0], some (.int .u8), none⟩), (34, ⟨.slice 5, 1, 24, [.sl .unit []], some (.slice (.int .u8)), none⟩), (37, ⟨.int .u64, 1, 8, [.int .u64 0], some (.int .u64), none⟩), (84, ⟨.struct [(0, 37), (1, 37)], 2, 16, [.int .u64 0, .int .u64 0], some (.pair (.int .u64) (.int .u64)), some [(0, 37), (1, 37)]⟩), (90, ⟨.slice 34, 1, 24, [.sl .unit []], some (.slice (.slice (.int .u8))), none⟩), (103, ⟨.int .u64, 1, 8, [.int .u64 0], some (.int .u64), none⟩), (118, ⟨.struct [(0, 37), (1, 37), (2, 37), (3, 37)], 4, 32, [.int .u64 0, .int .u64 0, .int .u64 0, .int .u64 0], some (.pair (.int .u64) (.pair (.int .u64) (.pair (.int .u64) (.int .u64)))), some [(0, 37), (1, 37), (2, 37), (3, 37)]⟩), (121, ⟨.arr 4 37, 4, 32, [.int .u64 0, .int .u64 0, .int .u64 0, .int .u64 0], some (.pair (.int .u64) (.pair (.int .u64) (.pair (.int .u64) (.int .u64)))), none⟩), (123, ⟨.struct [(0, 121), (4, 37), (5, 3)], 6, 48, [.int .u64 0, .int .u64 0, .int .u64 0, .int .u64 0, .int .u64 0, .int .i64 0], some (.pair (.pair (.int .u64) (.pair (.int .u64) (.pair (.int .u64) (.int .u64)))) (.pair (.int .u64) (.int .i64))), some [(0, 121), (4, 37), (5, 3)]⟩)]
theorem ht : TabOk Go.Proofs.Try.prog tab := tabOk_of (ts := [3, 5, 34, 37, 84, 90, 103, 118, 121, 123]) (by kernel_rfl)
theorem hm : Go.Proofs.Try.prog.follows .mixedOrders = true := by kernel_rfl
/-! brougham/sip.begin -/
def f74_sip_begin_in (k_0 : Int) (k_1 : Int) : Inn := ⟨[.agg [.d (.int .u64 k_0), .d (.int .u64 k_1)]], [], [], 0⟩
def f74_sip_begin_out (r : Int × Int × Int × Int × Int × Int) : Out := ⟨.one (.c (.ptr 0 0)), [], [(0, [.d (.int .u64 r.1), .d (.int .u64 r.2.1), .d (.int .u64 r.2.2.1), .d (.int .u64 r.2.2.2.1), .d (.int .u64 r.2.2.2.2.1), .d (.int .i64 r.2.2.2.2.2)])], 1⟩
def f74_sip_begin (k_0 : Int) (k_1 : Int) : Option (Int × Int × Int × Int × Int × Int) :=
  some ((bits .xor .u64 k_0 8317987319222330741), (bits .xor .u64 k_1 7237128888997146477), (bits .xor .u64 k_0 7816392313619706465), (bits .xor .u64 k_1 8387220255154660723), 0, 0)
theorem f74_sip_begin_ok (k_0 : Int) (k_1 : Int) (r : Int × Int × Int × Int × Int × Int) (h : f74_sip_begin k_0 k_1 = some r) : FnOK Go.Proofs.Try.prog 74 (f74_sip_begin_in k_0 k_1) (f74_sip_begin_out r) := by
  unfold f74_sip_begin at h
  refine At.fn (r := 0) Go.Proofs.Try.func74 rfl (by kernel_rfl) rfl rfl (by kernel_rfl) ?_
  show At Go.Proofs.Try.prog Go.Proofs.Try.f74 0 0 ⟨[(0, .one (.agg [.d (.int .u64 k_0), .d (.int .u64 k_1)]))], [], [], 0⟩ _
  refine At.step hm ht ⟨[], [], [], [1], [0]⟩ 1 ⟨[(1, .one (.c (.ptr 0 0)))], [], [(0, [.d (.int .u64 k_0), .d (.int .u64 k_1)])], 1⟩ [] (by kernel_rfl) trivial ?_
  have h := Option.some.inj h
  subst h
  exact At.fin hm ht ⟨[], [], [], [2], [15]⟩ [] (by kernel_rfl) trivial
/-! math/bits.RotateLeft64 -/
def f82_bits_RotateLeft64_in (x : Int) (k : Int) : Inn := ⟨[.c (.d (.int .u64 x)), .c (.d (.int .i64 k))], [], [], 0⟩
def f82_bits_RotateLeft64_out (r : Int) : Out := ⟨.one (.c (.d (.int .u64 r))), [], [], 0⟩
def f82_bits_RotateLeft64 (x : Int) (k : Int) : Option (Int) :=
  if (0 : Int) ≤ (bits .and .u64 (IntKind.wrap .u64 k) 63) then
  if (0 : Int) ≤ (IntKind.wrap .u64 (64 - (bits .and .u64 (IntKind.wrap .u64 k) 63))) then
  some (bits .or .u64 (IntKind.wrap .u64 (x * 2 ^ (min (bits .and .u64 (IntKind.wrap .u64 k) 63).toNat (IntKind.bits .u64)))) (Int.fdiv x (2 ^ (min (IntKind.wrap .u64 (64 - (bits .and .u64 (IntKind.wrap .u64 k) 63))).toNat (IntKind.bits .u64)))))
  else none
  else none
theorem f82_bits_RotateLeft64_ok (x : Int) (k : Int) (r : Int) (h : f82_bits_RotateLeft64 x k = some r) : FnOK Go.Proofs.Try.prog 82 (f82_bits_RotateLeft64_in x k) (f82_bits_RotateLeft64_out r) := by
  unfold f82_bits_RotateLeft64 at h
  refine At.fn (r := 0) Go.Proofs.Try.func82 rfl (by kernel_rfl) rfl rfl (by kernel_rfl) ?_
  show At Go.Proofs.Try.prog Go.Proofs.Try.f82 0 0 ⟨[(0, .one (.c (.d (.int .u64 x)))), (1, .one (.c (.d (.int .i64 k))))], [], [], 0⟩ _
  refine At.step hm ht ⟨[], [], [], [0, 1], []⟩ 1 ⟨[(0, .one (.c (.d (.int .u64 x)))), (1, .one (.c (.d (.int .i64 k))))], [], [], 0⟩ [] (by kernel_rfl) trivial ?_
  refine At.step hm ht ⟨[], [], [], [0, 5], []⟩ 2 ⟨[(0, .one (.c (.d (.int .u64 x)))), (5, .one (.c (.d (.int .u64 (bits .and .u64 (IntKind.wrap .u64 k) 63)))))], [], [], 0⟩ [] (by kernel_rfl) trivial ?_
  obtain ⟨g28_0, h⟩ := ifS h
  obtain ⟨g28_1, h⟩ := ifS h
  have h := Option.some.inj h
  subst h
  exact At.fin hm ht ⟨[], [], [], [4], []⟩ [(0 : Int) ≤ (bits .and .u64 (IntKind.wrap .u64 k) 63), (0 : Int) ≤ (IntKind.wrap .u64 (64 - (bits .and .u64 (IntKind.wrap .u64 k) 63)))] (by kernel_rfl) ⟨g28_0, g28_1, trivial⟩
/-! (*brougham/sip.state).round -/
def f80_sip_state_round_in (s_0 : Int) (s_1 : Int) (s_2 : Int) (s_3 : Int) (s_4 : Int) (s_5 : Int) : Inn := ⟨[.c (.ptr 0 0)], [], [(0, [.d (.int .u64 s_0), .d (.int .u64 s_1), .d (.int .u64 s_2), .d (.int .u64 s_3), .d (.int .u64 s_4), .d (.int .i64 s_5)])], 1⟩
def f80_sip_state_round_out (r : Int × Int × Int × Int × Int × Int) : Out := ⟨.tup [], [], [(0, [.d (.int .u64 r.1), .d (.int .u64 r.2.1), .d (.int .u64 r.2.2.1), .d (.int .u64 r.2.2.2.1), .d (.int .u64 r.2.2.2.2.1), .d (.int .i64 r.2.2.2.2.2)])], 1⟩
def f80_sip_state_round (s_0 : Int) (s_1 : Int) (s_2 : Int) (s_3 : Int) (s_4 : Int) (s_5 : Int) : Option (Int × Int × Int × Int × Int × Int) :=
  (f82_bits_RotateLeft64 s_1 13).bind fun r25_0 =>
  (f82_bits_RotateLeft64 s_3 16).bind fun r29_0 =>
  (f82_bits_RotateLeft64 (IntKind.wrap .u64 (s_0 + s_1)) 32).bind fun r30_0 =>
  (f82_bits_RotateLeft64 (bits .xor .u64 r25_0 (IntKind.wrap .u64 (s_0 + s_1))) 17).bind fun r33_0 =>
  (f82_bits_RotateLeft64 (bits .xor .u64 r29_0 (IntKind.wrap .u64 (s_2 + s_3))) 21).bind fun r34_0 =>
  (f82_bits_RotateLeft64 (IntKind.wrap .u64 ((IntKind.wrap .u64 (s_2 + s_3)) + (bits .xor .u64 r25_0 (IntKind.wrap .u64 (s_0 + s_1))))) 32).bind fun r35_0 =>
  some ((IntKind.wrap .u64 (r30_0 + (bits .xor .u64 r29_0 (IntKind.wrap .u64 (s_2 + s_3))))), (bits .xor .u64 r33_0 (IntKind.wrap .u64 ((IntKind.wrap .u64 (s_2 + s_3)) + (bits .xor .u64 r25_0 (IntKind.wrap .u64 (s_0 + s_1)))))), r35_0, (bits .xor .u64 r34_0 (IntKind.wrap .u64 (r30_0 + (bits .xor .u64 r29_0 (IntKind.wrap .u64 (s_2 + s_3)))))), s_4, s_5)
theorem f80_sip_state_round_ok (s_0 : Int) (s_1 : Int) (s_2 : Int) (s_3 : Int) (s_4 : Int) (s_5 : Int) (r : Int × Int × Int × Int × Int × Int) (h : f80_sip_state_round s_0 s_1 s_2 s_3 s_4 s_5 = some r) : FnOK Go.Proofs.Try.prog 80 (f80_sip_state_round_in s_0 s_1 s_2 s_3 s_4 s_5) (f80_sip_state_round_out r) := by
  unfold f80_sip_state_round at h
  refine At.fn (r := 0) Go.Proofs.Try.func80 rfl (by kernel_rfl) rfl rfl (by kernel_rfl) ?_
  show At Go.Proofs.Try.prog Go.Proofs.Try.f80 1 0 ⟨[(0, .one (.c (.ptr 0 0)))], [], [(0, [.d (.int .u64 s_0), .d (.int .u64 s_1), .d (.int .u64 s_2), .d (.int .u64 s_3), .d (.int .u64 s_4), .d (.int .i64 s_5)])], 1⟩ _
  refine At.step hm ht ⟨[], [], [], [2], [0]⟩ 1 ⟨[(2, .one (.c (.ptr 0 0)))], [], [(0, [.d (.int .u64 s_0), .d (.int .u64 s_1), .d (.int .u64 s_2), .d (.int .u64 s_3), .d (.int .u64 s_4), .d (.int .i64 s_5)])], 1⟩ [] (by kernel_rfl) trivial ?_
  refine At.step hm ht ⟨[], [], [], [2], [0]⟩ 2 ⟨[(2, .one (.c (.ptr 0 0)))], [], [(0, [.d (.int .u64 (IntKind.wrap .u64 (s_0 + s_1))), .d (.int .u64 s_1), .d (.int .u64 s_2), .d (.int .u64 s_3), .d (.int .u64 s_4), .d (.int .i64 s_5)])], 1⟩ [(0 : Int) ≤ (0 : Int) ∧ (0 : Int) < ((4 : Nat) : Int), (0 : Int) ≤ (1 : Int) ∧ (1 : Int) < ((4 : Nat) : Int), (0 : Int) ≤ (0 : Int) ∧ (0 : Int) < ((4 : Nat) : Int), 0 + 1 ≤ 6] (by kernel_rfl) ⟨(by decide), (by decide), (by decide), (by decide), trivial⟩ ?_
  refine At.step hm ht ⟨[], [], [], [2], [0]⟩ 3 ⟨[(2, .one (.c (.ptr 0 0)))], [], [(0, [.d (.int .u64 (IntKind.wrap .u64 (s_0 + s_1))), .d (.int .u64 s_1), .d (.int .u64 (IntKind.wrap .u64 (s_2 + s_3))), .d (.int .u64 s_3), .d (.int .u64 s_4), .d (.int .i64 s_5)])], 1⟩ [(0 : Int) ≤ (2 : Int) ∧ (2 : Int) < ((4 : Nat) : Int), (0 : Int) ≤ (3 : Int) ∧ (3 : Int) < ((4 : Nat) : Int), (0 : Int) ≤ (2 : Int) ∧ (2 : Int) < ((4 : Nat) : Int), 2 + 1 ≤ 6] (by kernel_rfl) ⟨(by decide), (by decide), (by decide), (by decide), trivial⟩ ?_
  obtain ⟨r25_0, cr25_0, h⟩ := bindS h
  refine At.step hm ht ⟨[(5, .call [] [] (f82_bits_RotateLeft64_out r25_0))], [], [], [2], [0]⟩ 4 ⟨[(2, .one (.c (.ptr 0 0)))], [], [(0, [.d (.int .u64 (IntKind.wrap .u64 (s_0 + s_1))), .d (.int .u64 (bits .xor .u64 r25_0 (IntKind.wrap .u64 (s_0 + s_1)))), .d (.int .u64 (IntKind.wrap .u64 (s_2 + s_3))), .d (.int .u64 s_3), .d (.int .u64 s_4), .d (.int .i64 s_5)])], 1⟩ [(0 : Int) ≤ (1 : Int) ∧ (1 : Int) < ((4 : Nat) : Int), FnOK Go.Proofs.Try.prog 82 (f82_bits_RotateLeft64_in s_1 13) (f82_bits_RotateLeft64_out r25_0), (0 : Int) ≤ (0 : Int) ∧ (0 : Int) < ((4 : Nat) : Int), (0 : Int) ≤ (1 : Int) ∧ (1 : Int) < ((4 : Nat) : Int), 1 + 1 ≤ 6] (by kernel_rfl) ⟨(by decide), (f82_bits_RotateLeft64_ok s_1 13 r25_0 cr25_0), (by decide), (by decide), (by decide), trivial⟩ ?_
  obtain ⟨r29_0, cr29_0, h⟩ := bindS h
  refine At.step hm ht ⟨[(5, .call [] [] (f82_bits_RotateLeft64_out r29_0))], [], [], [2], [0]⟩ 5 ⟨[(2, .one (.c (.ptr 0 0)))], [], [(0, [.d (.int .u64 (IntKind.wrap .u64 (s_0 + s_1))), .d (.int .u64 (bits .xor .u64 r25_0 (IntKind.wrap .u64 (s_0 + s_1)))), .d (.int .u64 (IntKind.wrap .u64 (s_2 + s_3))), .d (.int .u64 (bits .xor .u64 r29_0 (IntKind.wrap .u64 (s_2 + s_3)))), .d (.int .u64 s_4), .d (.int .i64 s_5)])], 1⟩ [(0 : Int) ≤ (3 : Int) ∧ (3 : Int) < ((4 : Nat) : Int), FnOK Go.Proofs.Try.prog 82 (f82_bits_RotateLeft64_in s_3 16) (f82_bits_RotateLeft64_out r29_0), (0 : Int) ≤ (2 : Int) ∧ (2 : Int) < ((4 : Nat) : Int), (0 : Int) ≤ (3 : Int) ∧ (3 : Int) < ((4 : Nat) : Int), 3 + 1 ≤ 6] (by kernel_rfl) ⟨(by decide), (f82_bits_RotateLeft64_ok s_3 16 r29_0 cr29_0), (by decide), (by decide), (by decide), trivial⟩ ?_
  obtain ⟨r30_0, cr30_0, h⟩ := bindS h
  refine At.step hm ht ⟨[(5, .call [] [] (f82_bits_RotateLeft64_out r30_0))], [], [], [2], [0]⟩ 6 ⟨[(2, .one (.c (.ptr 0 0)))], [], [(0, [.d (.int .u64 r30_0), .d (.int .u64 (bits .xor .u64 r25_0 (IntKind.wrap .u64 (s_0 + s_1)))), .d (.int .u64 (IntKind.wrap .u64 (s_2 + s_3))), .d (.int .u64 (bits .xor .u64 r29_0 (IntKind.wrap .u64 (s_2 + s_3)))), .d (.int .u64 s_4), .d (.int .i64 s_5)])], 1⟩ [(0 : Int) ≤ (0 : Int) ∧ (0 : Int) < ((4 : Nat) : Int), FnOK Go.Proofs.Try.prog 82 (f82_bits_RotateLeft64_in (IntKind.wrap .u64 (s_0 + s_1)) 32) (f82_bits_RotateLeft64_out r30_0), (0 : Int) ≤ (0 : Int) ∧ (0 : Int) < ((4 : Nat) : Int), 0 + 1 ≤ 6] (by kernel_rfl) ⟨(by decide), (f82_bits_RotateLeft64_ok (IntKind.wrap .u64 (s_0 + s_1)) 32 r30_0 cr30_0), (by decide), (by decide), trivial⟩ ?_
  refine At.step hm ht ⟨[], [], [], [2], [0]⟩ 7 ⟨[(2, .one (.c (.ptr 0 0)))], [], [(0, [.d (.int .u64 r30_0), .d (.int .u64 (bits .xor .u64 r25_0 (IntKind.wrap .u64 (s_0 + s_1)))), .d (.int .u64 (IntKind.wrap .u64 ((IntKind.wrap .u64 (s_2 + s_3)) + (bits .xor .u64 r25_0 (IntKind.wrap .u64 (s_0 + s_1)))))), .d (.int .u64 (bits .xor .u64 r29_0 (IntKind.wrap .u64 (s_2 + s_3)))), .d (.int .u64 s_4), .d (.int .i64 s_5)])], 1⟩ [(0 : Int) ≤ (2 : Int) ∧ (2 : Int) < ((4 : Nat) : Int), (0 : Int) ≤ (1 : Int) ∧ (1 : Int) < ((4 : Nat) : Int), (0 : Int) ≤ (2 : Int) ∧ (2 : Int) < ((4 : Nat) : Int), 2 + 1 ≤ 6] (by kernel_rfl) ⟨(by decide), (by decide), (by decide), (by decide), trivial⟩ ?_
  refine At.step hm ht ⟨[], [], [], [2], [0]⟩ 8 ⟨[(2, .one (.c (.ptr 0 0)))], [], [(0, [.d (.int .u64 (IntKind.wrap .u64 (r30_0 + (bits .xor .u64 r29_0 (IntKind.wrap .u64 (s_2 + s_3)))))), .d (.int .u64 (bits .xor .u64 r25_0 (IntKind.wrap .u64 (s_0 + s_1)))), .d (.int .u64 (IntKind.wrap .u64 ((IntKind.wrap .u64 (s_2 + s_3)) + (bits .xor .u64 r25_0 (IntKind.wrap .u64 (s_0 + s_1)))))), .d (.int .u64 (bits .xor .u64 r29_0 (IntKind.wrap .u64 (s_2 + s_3)))), .d (.int .u64 s_4), .d (.int .i64 s_5)])], 1⟩ [(0 : Int) ≤ (0 : Int) ∧ (0 : Int) < ((4 : Nat) : Int), (0 : Int) ≤ (3 : Int) ∧ (3 : Int) < ((4 : Nat) : Int), (0 : Int) ≤ (0 : Int) ∧ (0 : Int) < ((4 : Nat) : Int), 0 + 1 ≤ 6] (by kernel_rfl) ⟨(by decide), (by decide), (by decide), (by decide), trivial⟩ ?_
  obtain ⟨r33_0, cr33_0, h⟩ := bindS h
  refine At.step hm ht ⟨[(5, .call [] [] (f82_bits_RotateLeft64_out r33_0))], [], [], [2], [0]⟩ 9 ⟨[(2, .one (.c (.ptr 0 0)))], [], [(0, [.d (.int .u64 (IntKind.wrap .u64 (r30_0 + (bits .xor .u64 r29_0 (IntKind.wrap .u64 (s_2 + s_3)))))), .d (.int .u64 (bits .xor .u64 r33_0 (IntKind.wrap .u64 ((IntKind.wrap .u64 (s_2 + s_3)) + (bits .xor .u64 r25_0 (IntKind.wrap .u64 (s_0 + s_1))))))), .d (.int .u64 (IntKind.wrap .u64 ((IntKind.wrap .u64 (s_2 + s_3)) + (bits .xor .u64 r25_0 (IntKind.wrap .u64 (s_0 + s_1)))))), .d (.int .u64 (bits .xor .u64 r29_0 (IntKind.wrap .u64 (s_2 + s_3)))), .d (.int .u64 s_4), .d (.int .i64 s_5)])], 1⟩ [(0 : Int) ≤ (1 : Int) ∧ (1 : Int) < ((4 : Nat) : Int), FnOK Go.Proofs.Try.prog 82 (f82_bits_RotateLeft64_in (bits .xor .u64 r25_0 (IntKind.wrap .u64 (s_0 + s_1))) 17) (f82_bits_RotateLeft64_out r33_0), (0 : Int) ≤ (2 : Int) ∧ (2 : Int) < ((4 : Nat) : Int), (0 : Int) ≤ (1 : Int) ∧ (1 : Int) < ((4 : Nat) : Int), 1 + 1 ≤ 6] (by kernel_rfl) ⟨(by decide), (f82_bits_RotateLeft64_ok (bits .xor .u64 r25_0 (IntKind.wrap .u64 (s_0 + s_1))) 17 r33_0 cr33_0), (by decide), (by decide), (by decide), trivial⟩ ?_
  obtain ⟨r34_0, cr34_0, h⟩ := bindS h
  refine At.step hm ht ⟨[(5, .call [] [] (f82_bits_RotateLeft64_out r34_0))], [], [], [2], [0]⟩ 10 ⟨[(2, .one (.c (.ptr 0 0)))], [], [(0, [.d (.int .u64 (IntKind.wrap .u64 (r30_0 + (bits .xor .u64 r29_0 (IntKind.wrap .u64 (s_2 + s_3)))))), .d (.int .u64 (bits .xor .u64 r33_0 (IntKind.wrap .u64 ((IntKind.wrap .u64 (s_2 + s_3)) + (bits .xor .u64 r25_0 (IntKind.wrap .u64 (s_0 + s_1))))))), .d (.int .u64 (IntKind.wrap .u64 ((IntKind.wrap .u64 (s_2 + s_3)) + (bits .xor .u64 r25_0 (IntKind.wrap .u64 (s_0 + s_1)))))), .d (.int .u64 (bits .xor .u64 r34_0 (IntKind.wrap .u64 (r30_0 + (bits .xor .u64 r29_0 (IntKind.wrap .u64 (s_2 + s_3))))))), .d (.int .u64 s_4), .d (.int .i64 s_5)])], 1⟩ [(0 : Int) ≤ (3 : Int) ∧ (3 : Int) < ((4 : Nat) : Int), FnOK Go.Proofs.Try.prog 82 (f82_bits_RotateLeft64_in (bits .xor .u64 r29_0 (IntKind.wrap .u64 (s_2 + s_3))) 21) (f82_bits_RotateLeft64_out r34_0), (0 : Int) ≤ (0 : Int) ∧ (0 : Int) < ((4 : Nat) : Int), (0 : Int) ≤ (3 : Int) ∧ (3 : Int) < ((4 : Nat) : Int), 3 + 1 ≤ 6] (by kernel_rfl) ⟨(by decide), (f82_bits_RotateLeft64_ok (bits .xor .u64 r29_0 (IntKind.wrap .u64 (s_2 + s_3))) 21 r34_0 cr34_0), (by decide), (by decide), (by decide), trivial⟩ ?_
  obtain ⟨r35_0, cr35_0, h⟩ := bindS h
  have h := Option.some.inj h
  subst h
  exact At.fin hm ht ⟨[(5, .call [] [] (f82_bits_RotateLeft64_out r35_0))], [], [], [], [0]⟩ [(0 : Int) ≤ (2 : Int) ∧ (2 : Int) < ((4 : Nat) : Int), FnOK Go.Proofs.Try.prog 82 (f82_bits_RotateLeft64_in (IntKind.wrap .u64 ((IntKind.wrap .u64 (s_2 + s_3)) + (bits .xor .u64 r25_0 (IntKind.wrap .u64 (s_0 + s_1))))) 32) (f82_bits_RotateLeft64_out r35_0), (0 : Int) ≤ (2 : Int) ∧ (2 : Int) < ((4 : Nat) : Int), 2 + 1 ≤ 6] (by kernel_rfl) ⟨(by decide), (f82_bits_RotateLeft64_ok (IntKind.wrap .u64 ((IntKind.wrap .u64 (s_2 + s_3)) + (bits .xor .u64 r25_0 (IntKind.wrap .u64 (s_0 + s_1))))) 32 r35_0 cr35_0), (by decide), (by decide), trivial⟩
/-! (*brougham/sip.state).take -/
def f79_sip_state_take_in (m : Int) (s_0 : Int) (s_1 : Int) (s_2 : Int) (s_3 : Int) (s_4 : Int) (s_5 : Int) : Inn := ⟨[.c (.ptr 0 0), .c (.d (.int .u64 m))], [], [(0, [.d (.int .u64 s_0), .d (.int .u64 s_1), .d (.int .u64 s_2), .d (.int .u64 s_3), .d (.int .u64 s_4), .d (.int .i64 s_5)])], 1⟩
def f79_sip_state_take_out (r : Int × Int × Int × Int × Int × Int) : Out := ⟨.tup [], [], [(0, [.d (.int .u64 r.1), .d (.int .u64 r.2.1), .d (.int .u64 r.2.2.1), .d (.int .u64 r.2.2.2.1), .d (.int .u64 r.2.2.2.2.1), .d (.int .i64 r.2.2.2.2.2)])], 1⟩
def f79_sip_state_take (m : Int) (s_0 : Int) (s_1 : Int) (s_2 : Int) (s_3 : Int) (s_4 : Int) (s_5 : Int) : Option (Int × Int × Int × Int × Int × Int) :=
  (f80_sip_state_round s_0 s_1 s_2 (bits .xor .u64 s_3 m) s_4 s_5).bind fun r21_0 =>
  (f80_sip_state_round r21_0.1 r21_0.2.1 r21_0.2.2.1 r21_0.2.2.2.1 r21_0.2.2.2.2.1 r21_0.2.2.2.2.2).bind fun r36_0 =>
  some ((bits .xor .u64 r36_0.1 m), r36_0.2.1, r36_0.2.2.1, r36_0.2.2.2.1, r36_0.2.2.2.2.1, r36_0.2.2.2.2.2)
theorem f79_sip_state_take_ok (m : Int) (s_0 : Int) (s_1 : Int) (s_2 : Int) (s_3 : Int) (s_4 : Int) (s_5 : Int) (r : Int × Int × Int × Int × Int × Int) (h : f79_sip_state_take m s_0 s_1 s_2 s_3 s_4 s_5 = some r) : FnOK Go.Proofs.Try.prog 79 (f79_sip_state_take_in m s_0 s_1 s_2 s_3 s_4 s_5) (f79_sip_state_take_out r) := by
  unfold f79_sip_state_take at h
  refine At.fn (r := 0) Go.Proofs.Try.func79 rfl (by kernel_rfl) rfl rfl (by kernel_rfl) ?_
  show At Go.Proofs.Try.prog Go.Proofs.Try.f79 1 0 ⟨[(0, .one (.c (.ptr 0 0))), (1, .one (.c (.d (.int .u64 m))))], [], [(0, [.d (.int .u64 s_0), .d (.int .u64 s_1), .d (.int .u64 s_2), .d (.int .u64 s_3), .d (.int .u64 s_4), .d (.int .i64 s_5)])], 1⟩ _
  refine At.step hm ht ⟨[], [], [], [0, 1], [0]⟩ 1 ⟨[(0, .one (.c (.ptr 0 0))), (1, .one (.c (.d (.int .u64 m))))], [], [(0, [.d (.int .u64 s_0), .d (.int .u64 s_1), .d (.int .u64 s_2), .d (.int .u64 (bits .xor .u64 s_3 m)), .d (.int .u64 s_4), .d (.int .i64 s_5)])], 1⟩ [(0 : Int) ≤ (3 : Int) ∧ (3 : Int) < ((4 : Nat) : Int), (0 : Int) ≤ (3 : Int) ∧ (3 : Int) < ((4 : Nat) : Int), 3 + 1 ≤ 6] (by kernel_rfl) ⟨(by decide), (by decide), (by decide), trivial⟩ ?_
  obtain ⟨r21_0, cr21_0, h⟩ := bindS h
  refine At.step hm ht ⟨[(1, .call [0] [] (f80_sip_state_round_out r21_0))], [], [], [0, 1], [0]⟩ 2 ⟨[(0, .one (.c (.ptr 0 0))), (1, .one (.c (.d (.int .u64 m))))], [], [(0, [.d (.int .u64 r21_0.1), .d (.int .u64 r21_0.2.1), .d (.int .u64 r21_0.2.2.1), .d (.int .u64 r21_0.2.2.2.1), .d (.int .u64 r21_0.2.2.2.2.1), .d (.int .i64 r21_0.2.2.2.2.2)])], 1⟩ [FnOK Go.Proofs.Try.prog 80 (f80_sip_state_round_in s_0 s_1 s_2 (bits .xor .u64 s_3 m) s_4 s_5) (f80_sip_state_round_out r21_0)] (by kernel_rfl) ⟨(f80_sip_state_round_ok s_0 s_1 s_2 (bits .xor .u64 s_3 m) s_4 s_5 r21_0 cr21_0), trivial⟩ ?_
  obtain ⟨r36_0, cr36_0, h⟩ := bindS h
  refine At.step hm ht ⟨[(1, .call [0] [] (f80_sip_state_round_out r36_0))], [], [], [0, 1], [0]⟩ 3 ⟨[(0, .one (.c (.ptr 0 0))), (1, .one (.c (.d (.int .u64 m))))], [], [(0, [.d (.int .u64 r36_0.1), .d (.int .u64 r36_0.2.1), .d (.int .u64 r36_0.2.2.1), .d (.int .u64 r36_0.2.2.2.1), .d (.int .u64 r36_0.2.2.2.2.1), .d (.int .i64 r36_0.2.2.2.2.2)])], 1⟩ [FnOK Go.Proofs.Try.prog 80 (f80_sip_state_round_in r21_0.1 r21_0.2.1 r21_0.2.2.1 r21_0.2.2.2.1 r21_0.2.2.2.2.1 r21_0.2.2.2.2.2) (f80_sip_state_round_out r36_0)] (by kernel_rfl) ⟨(f80_sip_state_round_ok r21_0.1 r21_0.2.1 r21_0.2.2.1 r21_0.2.2.2.1 r21_0.2.2.2.2.1 r21_0.2.2.2.2.2 r36_0 cr36_0), trivial⟩ ?_
  have h := Option.some.inj h
  subst h
  exact At.fin hm ht ⟨[], [], [], [], [0]⟩ [(0 : Int) ≤ (0 : Int) ∧ (0 : Int) < ((4 : Nat) : Int), (0 : Int) ≤ (0 : Int) ∧ (0 : Int) < ((4 : Nat) : Int), 0 + 1 ≤ 6] (by kernel_rfl) ⟨(by decide), (by decide), (by decide), trivial⟩
/-! (*brougham/sip.state).byte -/
def f75_sip_state_byte_in (c : Int) (s_0 : Int) (s_1 : Int) (s_2 : Int) (s_3 : Int) (s_4 : Int) (s_5 : Int) : Inn := ⟨[.c (.ptr 0 0), .c (.d (.int .u8 c))], [], [(0, [.d (.int .u64 s_0), .d (.int .u64 s_1), .d (.int .u64 s_2), .d (.int .u64 s_3), .d (.int .u64 s_4), .d (.int .i64 s_5)])], 1⟩
def f75_sip_state_byte_out (r : Int × Int × Int × Int × Int × Int) : Out := ⟨.tup [], [], [(0, [.d (.int .u64 r.1), .d (.int .u64 r.2.1), .d (.int .u64 r.2.2.1), .d (.int .u64 r.2.2.2.1), .d (.int .u64 r.2.2.2.2.1), .d (.int .i64 r.2.2.2.2.2)])], 1⟩
def f75_sip_state_byte (c : Int) (s_0 : Int) (s_1 : Int) (s_2 : Int) (s_3 : Int) (s_4 : Int) (s_5 : Int) : Option (Int × Int × Int × Int × Int × Int) :=
  if (0 : Int) ≤ (IntKind.wrap .i64 (8 * (Int.tmod s_5 8))) then
  if (((Int.tmod (IntKind.wrap .i64 (s_5 + 1)) 8) : Int) == 0) = true then
    (f79_sip_state_take (bits .or .u64 s_4 (IntKind.wrap .u64 ((IntKind.wrap .u64 c) * 2 ^ (min (IntKind.wrap .i64 (8 * (Int.tmod s_5 8))).toNat (IntKind.bits .u64))))) s_0 s_1 s_2 s_3 (bits .or .u64 s_4 (IntKind.wrap .u64 ((IntKind.wrap .u64 c) * 2 ^ (min (IntKind.wrap .i64 (8 * (Int.tmod s_5 8))).toNat (IntKind.bits .u64))))) (IntKind.wrap .i64 (s_5 + 1))).bind fun r19_0 =>
    some (r19_0.1, r19_0.2.1, r19_0.2.2.1, r19_0.2.2.2.1, 0, r19_0.2.2.2.2.2)
  else
    some (s_0, s_1, s_2, s_3, (bits .or .u64 s_4 (IntKind.wrap .u64 ((IntKind.wrap .u64 c) * 2 ^ (min (IntKind.wrap .i64 (8 * (Int.tmod s_5 8))).toNat (IntKind.bits .u64))))), (IntKind.wrap .i64 (s_5 + 1)))
  else none
theorem f75_sip_state_byte_ok (c : Int) (s_0 : Int) (s_1 : Int) (s_2 : Int) (s_3 : Int) (s_4 : Int) (s_5 : Int) (r : Int × Int × Int × Int × Int × Int) (h : f75_sip_state_byte c s_0 s_1 s_2 s_3 s_4 s_5 = some r) : FnOK Go.Proofs.Try.prog 75 (f75_sip_state_byte_in c s_0 s_1 s_2 s_3 s_4 s_5) (f75_sip_state_byte_out r) := by
  unfold f75_sip_state_byte at h
  refine At.fn (r := 0) Go.Proofs.Try.func75 rfl (by kernel_rfl) rfl rfl (by kernel_rfl) ?_
  show At Go.Proofs.Try.prog Go.Proofs.Try.f75 1 0 ⟨[(0, .one (.c (.ptr 0 0))), (1, .one (.c (.d (.int .u8 c))))], [], [(0, [.d (.int .u64 s_0), .d (.int .u64 s_1), .d (.int .u64 s_2), .d (.int .u64 s_3), .d (.int .u64 s_4), .d (.int .i64 s_5)])], 1⟩ _
  obtain ⟨g16_0, h⟩ := ifS h
  refine At.step hm ht ⟨[], [], [], [0], [0]⟩ 1 ⟨[(0, .one (.c (.ptr 0 0)))], [], [(0, [.d (.int .u64 s_0), .d (.int .u64 s_1), .d (.int .u64 s_2), .d (.int .u64 s_3), .d (.int .u64 (bits .or .u64 s_4 (IntKind.wrap .u64 ((IntKind.wrap .u64 c) * 2 ^ (min (IntKind.wrap .i64 (8 * (Int.tmod s_5 8))).toNat (IntKind.bits .u64)))))), .d (.int .i64 s_5)])], 1⟩ [(8 : Int) ≠ 0, (0 : Int) ≤ (IntKind.wrap .i64 (8 * (Int.tmod s_5 8))), 4 + 1 ≤ 6] (by kernel_rfl) ⟨(by decide), g16_0, (by decide), trivial⟩ ?_
  refine At.step hm ht ⟨[], [], [], [0], [0]⟩ 2 ⟨[(0, .one (.c (.ptr 0 0)))], [], [(0, [.d (.int .u64 s_0), .d (.int .u64 s_1), .d (.int .u64 s_2), .d (.int .u64 s_3), .d (.int .u64 (bits .or .u64 s_4 (IntKind.wrap .u64 ((IntKind.wrap .u64 c) * 2 ^ (min (IntKind.wrap .i64 (8 * (Int.tmod s_5 8))).toNat (IntKind.bits .u64)))))), .d (.int .i64 (IntKind.wrap .i64 (s_5 + 1)))])], 1⟩ [5 + 1 ≤ 6] (by kernel_rfl) ⟨(by decide), trivial⟩ ?_
  rcases iteS h with ⟨b18_e0, h⟩ | ⟨b18_e0, h⟩
  · refine At.step hm ht ⟨[], [true], [], [0], [0]⟩ 3 ⟨[(0, .one (.c (.ptr 0 0)))], [], [(0, [.d (.int .u64 s_0), .d (.int .u64 s_1), .d (.int .u64 s_2), .d (.int .u64 s_3), .d (.int .u64 (bits .or .u64 s_4 (IntKind.wrap .u64 ((IntKind.wrap .u64 c) * 2 ^ (min (IntKind.wrap .i64 (8 * (Int.tmod s_5 8))).toNat (IntKind.bits .u64)))))), .d (.int .i64 (IntKind.wrap .i64 (s_5 + 1)))])], 1⟩ [(8 : Int) ≠ 0, (((Int.tmod (IntKind.wrap .i64 (s_5 + 1)) 8) : Int) == 0) = true] (by kernel_rfl) ⟨(by decide), b18_e0, trivial⟩ ?_
    obtain ⟨r19_0, cr19_0, h⟩ := bindS h
    refine At.step hm ht ⟨[(5, .call [0] [] (f79_sip_state_take_out r19_0))], [], [], [0], [0]⟩ 4 ⟨[(0, .one (.c (.ptr 0 0)))], [], [(0, [.d (.int .u64 r19_0.1), .d (.int .u64 r19_0.2.1), .d (.int .u64 r19_0.2.2.1), .d (.int .u64 r19_0.2.2.2.1), .d (.int .u64 r19_0.2.2.2.2.1), .d (.int .i64 r19_0.2.2.2.2.2)])], 1⟩ [FnOK Go.Proofs.Try.prog 79 (f79_sip_state_take_in (bits .or .u64 s_4 (IntKind.wrap .u64 ((IntKind.wrap .u64 c) * 2 ^ (min (IntKind.wrap .i64 (8 * (Int.tmod s_5 8))).toNat (IntKind.bits .u64))))) s_0 s_1 s_2 s_3 (bits .or .u64 s_4 (IntKind.wrap .u64 ((IntKind.wrap .u64 c) * 2 ^ (min (IntKind.wrap .i64 (8 * (Int.tmod s_5 8))).toNat (IntKind.bits .u64))))) (IntKind.wrap .i64 (s_5 + 1))) (f79_sip_state_take_out r19_0)] (by kernel_rfl) ⟨(f79_sip_state_take_ok (bits .or .u64 s_4 (IntKind.wrap .u64 ((IntKind.wrap .u64 c) * 2 ^ (min (IntKind.wrap .i64 (8 * (Int.tmod s_5 8))).toNat (IntKind.bits .u64))))) s_0 s_1 s_2 s_3 (bits .or .u64 s_4 (IntKind.wrap .u64 ((IntKind.wrap .u64 c) * 2 ^ (min (IntKind.wrap .i64 (8 * (Int.tmod s_5 8))).toNat (IntKind.bits .u64))))) (IntKind.wrap .i64 (s_5 + 1)) r19_0 cr19_0), trivial⟩ ?_
    have h := Option.some.inj h
    subst h
    exact At.fin hm ht ⟨[], [], [], [], [0]⟩ [4 + 1 ≤ 6] (by kernel_rfl) ⟨(by decide), trivial⟩
  · have h := Option.some.inj h
    subst h
    exact At.fin hm ht ⟨[], [false], [], [], [0]⟩ [(8 : Int) ≠ 0, (((Int.tmod (IntKind.wrap .i64 (s_5 + 1)) 8) : Int) == 0) = false] (by kernel_rfl) ⟨(by decide), b18_e0, trivial⟩
/-! (*brougham/sip.state).end -/
def f76_sip_state_end_in (s_0 : Int) (s_1 : Int) (s_2 : Int) (s_3 : Int) (s_4 : Int) (s_5 : Int) : Inn := ⟨[.c (.ptr 0 0)], [], [(0, [.d (.int .u64 s_0), .d (.int .u64 s_1), .d (.int .u64 s_2), .d (.int .u64 s_3), .d (.int .u64 s_4), .d (.int .i64 s_5)])], 1⟩
def f76_sip_state_end_out (r : Int × Int × Int × Int × Int × Int × Int) : Out := ⟨.one (.c (.d (.int .u64 r.1))), [], [(0, [.d (.int .u64 r.2.1), .d (.int .u64 r.2.2.1), .d (.int .u64 r.2.2.2.1), .d (.int .u64 r.2.2.2.2.1), .d (.int .u64 r.2.2.2.2.2.1), .d (.int .i64 r.2.2.2.2.2.2)])], 1⟩
def f76_sip_state_end_L4 : Nat → Int → Int → Int → Int → Int → Int → Int → Option (Int × Int × Int × Int × Int × Int)
  | 0, _, _, _, _, _, _, _ => none
  | n + 1, t26, s_0, s_1, s_2, s_3, s_4, s_5 =>
    if (decide ((t26 : Int) < 4)) = true then
      (f80_sip_state_round s_0 s_1 s_2 s_3 s_4 s_5).bind fun r51_0 =>
      f76_sip_state_end_L4 n (IntKind.wrap .i64 (t26 + 1)) r51_0.1 r51_0.2.1 r51_0.2.2.1 r51_0.2.2.2.1 r51_0.2.2.2.2.1 r51_0.2.2.2.2.2
    else
      some ((s_0, s_1, s_2, s_3, s_4, s_5))
def f76_sip_state_end_L4_k (e : Int × Int × Int × Int × Int × Int) (o : Out) : Prop := At Go.Proofs.Try.prog Go.Proofs.Try.f76 1 7 ⟨[(0, .one (.c (.ptr 0 0)))], [], [(0, [.d (.int .u64 e.1), .d (.int .u64 e.2.1), .d (.int .u64 e.2.2.1), .d (.int .u64 e.2.2.2.1), .d (.int .u64 e.2.2.2.2.1), .d (.int .i64 e.2.2.2.2.2)])], 1⟩ o
theorem f76_sip_state_end_L4_ok (n : Nat) : ∀ (t26 : Int) (s_0 : Int) (s_1 : Int) (s_2 : Int) (s_3 : Int) (s_4 : Int) (s_5 : Int) (w : Int × Int × Int × Int × Int × Int) (h : f76_sip_state_end_L4 n t26 s_0 s_1 s_2 s_3 s_4 s_5 = some w) (o : Out) (hk : f76_sip_state_end_L4_k w o), At Go.Proofs.Try.prog Go.Proofs.Try.f76 1 4 ⟨[(0, .one (.c (.ptr 0 0))), (26, .one (.c (.d (.int .i64 t26))))], [], [(0, [.d (.int .u64 s_0), .d (.int .u64 s_1), .d (.int .u64 s_2), .d (.int .u64 s_3), .d (.int .u64 s_4), .d (.int .i64 s_5)])], 1⟩ o := by
  induction n with
  | zero => intro t26 s_0 s_1 s_2 s_3 s_4 s_5 w h; rw [f76_sip_state_end_L4] at h; cases h
  | succ n ih =>
    intro t26 s_0 s_1 s_2 s_3 s_4 s_5 w h o hk
    rw [f76_sip_state_end_L4] at h
    rcases iteS h with ⟨b50_e0, h⟩ | ⟨b50_e0, h⟩
    · refine At.step hm ht ⟨[], [true], [], [0, 26], [0]⟩ 5 ⟨[(0, .one (.c (.ptr 0 0))), (26, .one (.c (.d (.int .i64 t26))))], [], [(0, [.d (.int .u64 s_0), .d (.int .u64 s_1), .d (.int .u64 s_2), .d (.int .u64 s_3), .d (.int .u64 s_4), .d (.int .i64 s_5)])], 1⟩ [(decide ((t26 : Int) < 4)) = true] (by kernel_rfl) ⟨b50_e0, trivial⟩ ?_
      obtain ⟨r51_0, cr51_0, h⟩ := bindS h
      refine At.step hm ht ⟨[(1, .call [0] [] (f80_sip_state_round_out r51_0))], [], [], [0, 26], [0]⟩ 6 ⟨[(0, .one (.c (.ptr 0 0))), (26, .one (.c (.d (.int .i64 t26))))], [], [(0, [.d (.int .u64 r51_0.1), .d (.int .u64 r51_0.2.1), .d (.int .u64 r51_0.2.2.1), .d (.int .u64 r51_0.2.2.2.1), .d (.int .u64 r51_0.2.2.2.2.1), .d (.int .i64 r51_0.2.2.2.2.2)])], 1⟩ [FnOK Go.Proofs.Try.prog 80 (f80_sip_state_round_in s_0 s_1 s_2 s_3 s_4 s_5) (f80_sip_state_round_out r51_0)] (by kernel_rfl) ⟨(f80_sip_state_round_ok s_0 s_1 s_2 s_3 s_4 s_5 r51_0 cr51_0), trivial⟩ ?_
      refine At.step hm ht ⟨[], [], [], [0, 26], [0]⟩ 4 ⟨[(0, .one (.c (.ptr 0 0))), (26, .one (.c (.d (.int .i64 (IntKind.wrap .i64 (t26 + 1))))))], [], [(0, [.d (.int .u64 r51_0.1), .d (.int .u64 r51_0.2.1), .d (.int .u64 r51_0.2.2.1), .d (.int .u64 r51_0.2.2.2.1), .d (.int .u64 r51_0.2.2.2.2.1), .d (.int .i64 r51_0.2.2.2.2.2)])], 1⟩ [] (by kernel_rfl) trivial ?_
      exact ih (IntKind.wrap .i64 (t26 + 1)) r51_0.1 r51_0.2.1 r51_0.2.2.1 r51_0.2.2.2.1 r51_0.2.2.2.2.1 r51_0.2.2.2.2.2 w h o hk
    · refine At.step hm ht ⟨[], [false], [], [0], [0]⟩ 7 ⟨[(0, .one (.c (.ptr 0 0)))], [], [(0, [.d (.int .u64 s_0), .d (.int .u64 s_1), .d (.int .u64 s_2), .d (.int .u64 s_3), .d (.int .u64 s_4), .d (.int .i64 s_5)])], 1⟩ [(decide ((t26 : Int) < 4)) = false] (by kernel_rfl) ⟨b50_e0, trivial⟩ ?_
      have h := Option.some.inj h
      subst h
      exact hk
def f76_sip_state_end (n : Nat) (s_0 : Int) (s_1 : Int) (s_2 : Int) (s_3 : Int) (s_4 : Int) (s_5 : Int) : Option (Int × Int × Int × Int × Int × Int × Int) :=
  (f79_sip_state_take (bits .or .u64 s_4 (IntKind.wrap .u64 ((IntKind.wrap .u64 (IntKind.wrap .u8 s_5)) * 2 ^ 56))) s_0 s_1 s_2 s_3 s_4 s_5).bind fun r47_0 =>
  (f76_sip_state_end_L4 n 0 r47_0.1 r47_0.2.1 (bits .xor .u64 r47_0.2.2.1 255) r47_0.2.2.2.1 r47_0.2.2.2.2.1 r47_0.2.2.2.2.2).bind fun w53 =>
  some ((bits .xor .u64 (bits .xor .u64 (bits .xor .u64 w53.1 w53.2.1) w53.2.2.1) w53.2.2.2.1), w53.1, w53.2.1, w53.2.2.1, w53.2.2.2.1, w53.2.2.2.2.1, w53.2.2.2.2.2)
theorem f76_sip_state_end_ok (n : Nat) (s_0 : Int) (s_1 : Int) (s_2 : Int) (s_3 : Int) (s_4 : Int) (s_5 : Int) (r : Int × Int × Int × Int × Int × Int × Int) (h : f76_sip_state_end n s_0 s_1 s_2 s_3 s_4 s_5 = some r) : FnOK Go.Proofs.Try.prog 76 (f76_sip_state_end_in s_0 s_1 s_2 s_3 s_4 s_5) (f76_sip_state_end_out r) := by
  unfold f76_sip_state_end at h
  refine At.fn (r := 0) Go.Proofs.Try.func76 rfl (by kernel_rfl) rfl rfl (by kernel_rfl) ?_
  show At Go.Proofs.Try.prog Go.Proofs.Try.f76 1 0 ⟨[(0, .one (.c (.ptr 0 0)))], [], [(0, [.d (.int .u64 s_0), .d (.int .u64 s_1), .d (.int .u64 s_2), .d (.int .u64 s_3), .d (.int .u64 s_4), .d (.int .i64 s_5)])], 1⟩ _
  refine At.step hm ht ⟨[], [], [], [0], [0]⟩ 1 ⟨[(0, .one (.c (.ptr 0 0)))], [], [(0, [.d (.int .u64 s_0), .d (.int .u64 s_1), .d (.int .u64 s_2), .d (.int .u64 s_3), .d (.int .u64 s_4), .d (.int .i64 s_5)])], 1⟩ [] (by kernel_rfl) trivial ?_
  obtain ⟨r47_0, cr47_0, h⟩ := bindS h
  refine At.step hm ht ⟨[(13, .call [0] [] (f79_sip_state_take_out r47_0))], [], [], [0], [0]⟩ 2 ⟨[(0, .one (.c (.ptr 0 0)))], [], [(0, [.d (.int .u64 r47_0.1), .d (.int .u64 r47_0.2.1), .d (.int .u64 r47_0.2.2.1), .d (.int .u64 r47_0.2.2.2.1), .d (.int .u64 r47_0.2.2.2.2.1), .d (.int .i64 r47_0.2.2.2.2.2)])], 1⟩ [(0 : Int) ≤ 56, FnOK Go.Proofs.Try.prog 79 (f79_sip_state_take_in (bits .or .u64 s_4 (IntKind.wrap .u64 ((IntKind.wrap .u64 (IntKind.wrap .u8 s_5)) * 2 ^ 56))) s_0 s_1 s_2 s_3 s_4 s_5) (f79_sip_state_take_out r47_0)] (by kernel_rfl) ⟨(by decide), (f79_sip_state_take_ok (bits .or .u64 s_4 (IntKind.wrap .u64 ((IntKind.wrap .u64 (IntKind.wrap .u8 s_5)) * 2 ^ 56))) s_0 s_1 s_2 s_3 s_4 s_5 r47_0 cr47_0), trivial⟩ ?_
  refine At.step hm ht ⟨[], [], [], [0], [0]⟩ 3 ⟨[(0, .one (.c (.ptr 0 0)))], [], [(0, [.d (.int .u64 r47_0.1), .d (.int .u64 r47_0.2.1), .d (.int .u64 (bits .xor .u64 r47_0.2.2.1 255)), .d (.int .u64 r47_0.2.2.2.1), .d (.int .u64 r47_0.2.2.2.2.1), .d (.int .i64 r47_0.2.2.2.2.2)])], 1⟩ [(0 : Int) ≤ (2 : Int) ∧ (2 : Int) < ((4 : Nat) : Int), (0 : Int) ≤ (2 : Int) ∧ (2 : Int) < ((4 : Nat) : Int), 2 + 1 ≤ 6] (by kernel_rfl) ⟨(by decide), (by decide), (by decide), trivial⟩ ?_
  refine At.step hm ht ⟨[], [], [], [0, 26], [0]⟩ 4 ⟨[(0, .one (.c (.ptr 0 0))), (26, .one (.c (.d (.int .i64 0))))], [], [(0, [.d (.int .u64 r47_0.1), .d (.int .u64 r47_0.2.1), .d (.int .u64 (bits .xor .u64 r47_0.2.2.1 255)), .d (.int .u64 r47_0.2.2.2.1), .d (.int .u64 r47_0.2.2.2.2.1), .d (.int .i64 r47_0.2.2.2.2.2)])], 1⟩ [] (by kernel_rfl) trivial ?_
  obtain ⟨w53, cw53, h⟩ := bindS h
  refine f76_sip_state_end_L4_ok n 0 r47_0.1 r47_0.2.1 (bits .xor .u64 r47_0.2.2.1 255) r47_0.2.2.2.1 r47_0.2.2.2.2.1 r47_0.2.2.2.2.2 w53 cw53 _ ?_
  show At Go.Proofs.Try.prog Go.Proofs.Try.f76 1 7 ⟨[(0, .one (.c (.ptr 0 0)))], [], [(0, [.d (.int .u64 w53.1), .d (.int .u64 w53.2.1), .d (.int .u64 w53.2.2.1), .d (.int .u64 w53.2.2.2.1), .d (.int .u64 w53.2.2.2.2.1), .d (.int .i64 w53.2.2.2.2.2)])], 1⟩ _
  have h := Option.some.inj h
  subst h
  exact At.fin hm ht ⟨[], [], [], [2], [0]⟩ [(0 : Int) ≤ (0 : Int) ∧ (0 : Int) < ((4 : Nat) : Int), (0 : Int) ≤ (1 : Int) ∧ (1 : Int) < ((4 : Nat) : Int), (0 : Int) ≤ (2 : Int) ∧ (2 : Int) < ((4 : Nat) : Int), (0 : Int) ≤ (3 : Int) ∧ (3 : Int) < ((4 : Nat) : Int)] (by kernel_rfl) ⟨(by decide), (by decide), (by decide), (by decide), trivial⟩
/-! brougham/sip.Sum -/
def f56_sip_Sum_in (k_0 : Int) (k_1 : Int) (parts : List (List Int)) : Inn := ⟨[.agg [.d (.int .u64 k_0), .d (.int .u64 k_1)], .c (.d (.sl (.slice (.int .u8)) parts))], [], [], 0⟩
def f56_sip_Sum_out (r : Int) : Out := ⟨.one (.c (.d (.int .u64 r))), [], [], 0⟩
def f56_sip_Sum_L6 : Nat → (List (List Int)) → Int → Int → (List Int) → Int → Int → Int → Int → Int → Int → Int → Int → Option (List (List Int) × Int × Int × Int × Int × Int × Int × Int × Int)
  | 0, _, _, _, _, _, _, _, _, _, _, _, _ => none
  | n + 1, t12, t13, t14, t18, t19, t20, s_0, s_1, s_2, s_3, s_4, s_5 =>
    if (decide ((t20 : Int) < t19)) = true then
      if (0 : Int) ≤ t20 ∧ t20 < (((t18).length : Nat) : Int) then
      (f75_sip_state_byte (t18.getD t20.toNat 0) s_0 s_1 s_2 s_3 s_4 s_5).bind fun r15_0 =>
      f56_sip_Sum_L6 n t12 t13 t14 t18 t19 (IntKind.wrap .i64 (t20 + 1)) r15_0.1 r15_0.2.1 r15_0.2.2.1 r15_0.2.2.2.1 r15_0.2.2.2.2.1 r15_0.2.2.2.2.2
      else none
    else
      some ((t12, t13, t14, s_0, s_1, s_2, s_3, s_4, s_5))
def f56_sip_Sum_L6_k (e : List (List Int) × Int × Int × Int × Int × Int × Int × Int × Int) (o : Out) : Prop := At Go.Proofs.Try.prog Go.Proofs.Try.f56 0 10 ⟨[(5, .one (.c (.ptr 0 0))), (12, .one (.c (.d (.sl (.slice (.int .u8)) e.1)))), (13, .one (.c (.d (.int .i64 e.2.1)))), (14, .one (.c (.d (.int .i64 e.2.2.1))))], [], [(0, [.d (.int .u64 e.2.2.2.1), .d (.int .u64 e.2.2.2.2.1), .d (.int .u64 e.2.2.2.2.2.1), .d (.int .u64 e.2.2.2.2.2.2.1), .d (.int .u64 e.2.2.2.2.2.2.2.1), .d (.int .i64 e.2.2.2.2.2.2.2.2)])], 1⟩ o
theorem f56_sip_Sum_L6_ok (n : Nat) : ∀ (t12 : List (List Int)) (t13 : Int) (t14 : Int) (t18 : List Int) (t19 : Int) (t20 : Int) (s_0 : Int) (s_1 : Int) (s_2 : Int) (s_3 : Int) (s_4 : Int) (s_5 : Int) (w : List (List Int) × Int × Int × Int × Int × Int × Int × Int × Int) (h : f56_sip_Sum_L6 n t12 t13 t14 t18 t19 t20 s_0 s_1 s_2 s_3 s_4 s_5 = some w) (o : Out) (hk : f56_sip_Sum_L6_k w o), At Go.Proofs.Try.prog Go.Proofs.Try.f56 0 6 ⟨[(5, .one (.c (.ptr 0 0))), (12, .one (.c (.d (.sl (.slice (.int .u8)) t12)))), (13, .one (.c (.d (.int .i64 t13)))), (14, .one (.c (.d (.int .i64 t14)))), (18, .one (.c (.d (.sl (.int .u8) t18)))), (19, .one (.c (.d (.int .i64 t19)))), (20, .one (.c (.d (.int .i64 t20))))], [], [(0, [.d (.int .u64 s_0), .d (.int .u64 s_1), .d (.int .u64 s_2), .d (.int .u64 s_3), .d (.int .u64 s_4), .d (.int .i64 s_5)])], 1⟩ o := by
  induction n with
  | zero => intro t12 t13 t14 t18 t19 t20 s_0 s_1 s_2 s_3 s_4 s_5 w h; rw [f56_sip_Sum_L6] at h; cases h
  | succ n ih =>
    intro t12 t13 t14 t18 t19 t20 s_0 s_1 s_2 s_3 s_4 s_5 w h o hk
    rw [f56_sip_Sum_L6] at h
    rcases iteS h with ⟨b13_e0, h⟩ | ⟨b13_e0, h⟩
    · refine At.step hm ht ⟨[], [true], [], [5, 12, 13, 14, 18, 19, 20], [0]⟩ 7 ⟨[(5, .one (.c (.ptr 0 0))), (12, .one (.c (.d (.sl (.slice (.int .u8)) t12)))), (13, .one (.c (.d (.int .i64 t13)))), (14, .one (.c (.d (.int .i64 t14)))), (18, .one (.c (.d (.sl (.int .u8) t18)))), (19, .one (.c (.d (.int .i64 t19)))), (20, .one (.c (.d (.int .i64 t20))))], [], [(0, [.d (.int .u64 s_0), .d (.int .u64 s_1), .d (.int .u64 s_2), .d (.int .u64 s_3), .d (.int .u64 s_4), .d (.int .i64 s_5)])], 1⟩ [(decide ((t20 : Int) < t19)) = true] (by kernel_rfl) ⟨b13_e0, trivial⟩ ?_
      obtain ⟨g14_0, h⟩ := ifS h
      refine At.step hm ht ⟨[], [], [], [5, 9, 12, 13, 14, 18, 19, 20], [0]⟩ 8 ⟨[(5, .one (.c (.ptr 0 0))), (9, .one (.c (.d (.int .u8 (t18.getD t20.toNat 0))))), (12, .one (.c (.d (.sl (.slice (.int .u8)) t12)))), (13, .one (.c (.d (.int .i64 t13)))), (14, .one (.c (.d (.int .i64 t14)))), (18, .one (.c (.d (.sl (.int .u8) t18)))), (19, .one (.c (.d (.int .i64 t19)))), (20, .one (.c (.d (.int .i64 t20))))], [], [(0, [.d (.int .u64 s_0), .d (.int .u64 s_1), .d (.int .u64 s_2), .d (.int .u64 s_3), .d (.int .u64 s_4), .d (.int .i64 s_5)])], 1⟩ [(0 : Int) ≤ t20 ∧ t20 < (((t18).length : Nat) : Int)] (by kernel_rfl) ⟨g14_0, trivial⟩ ?_
      obtain ⟨r15_0, cr15_0, h⟩ := bindS h
      refine At.step hm ht ⟨[(2, .call [0] [] (f75_sip_state_byte_out r15_0))], [], [], [5, 12, 13, 14, 18, 19, 20], [0]⟩ 9 ⟨[(5, .one (.c (.ptr 0 0))), (12, .one (.c (.d (.sl (.slice (.int .u8)) t12)))), (13, .one (.c (.d (.int .i64 t13)))), (14, .one (.c (.d (.int .i64 t14)))), (18, .one (.c (.d (.sl (.int .u8) t18)))), (19, .one (.c (.d (.int .i64 t19)))), (20, .one (.c (.d (.int .i64 t20))))], [], [(0, [.d (.int .u64 r15_0.1), .d (.int .u64 r15_0.2.1), .d (.int .u64 r15_0.2.2.1), .d (.int .u64 r15_0.2.2.2.1), .d (.int .u64 r15_0.2.2.2.2.1), .d (.int .i64 r15_0.2.2.2.2.2)])], 1⟩ [FnOK Go.Proofs.Try.prog 75 (f75_sip_state_byte_in (t18.getD t20.toNat 0) s_0 s_1 s_2 s_3 s_4 s_5) (f75_sip_state_byte_out r15_0)] (by kernel_rfl) ⟨(f75_sip_state_byte_ok (t18.getD t20.toNat 0) s_0 s_1 s_2 s_3 s_4 s_5 r15_0 cr15_0), trivial⟩ ?_
      refine At.step hm ht ⟨[], [], [], [5, 12, 13, 14, 18, 19, 20], [0]⟩ 6 ⟨[(5, .one (.c (.ptr 0 0))), (12, .one (.c (.d (.sl (.slice (.int .u8)) t12)))), (13, .one (.c (.d (.int .i64 t13)))), (14, .one (.c (.d (.int .i64 t14)))), (18, .one (.c (.d (.sl (.int .u8) t18)))), (19, .one (.c (.d (.int .i64 t19)))), (20, .one (.c (.d (.int .i64 (IntKind.wrap .i64 (t20 + 1))))))], [], [(0, [.d (.int .u64 r15_0.1), .d (.int .u64 r15_0.2.1), .d (.int .u64 r15_0.2.2.1), .d (.int .u64 r15_0.2.2.2.1), .d (.int .u64 r15_0.2.2.2.2.1), .d (.int .i64 r15_0.2.2.2.2.2)])], 1⟩ [] (by kernel_rfl) trivial ?_
      exact ih t12 t13 t14 t18 t19 (IntKind.wrap .i64 (t20 + 1)) r15_0.1 r15_0.2.1 r15_0.2.2.1 r15_0.2.2.2.1 r15_0.2.2.2.2.1 r15_0.2.2.2.2.2 w h o hk
    · refine At.step hm ht ⟨[], [false], [], [5, 12, 13, 14], [0]⟩ 10 ⟨[(5, .one (.c (.ptr 0 0))), (12, .one (.c (.d (.sl (.slice (.int .u8)) t12)))), (13, .one (.c (.d (.int .i64 t13)))), (14, .one (.c (.d (.int .i64 t14))))], [], [(0, [.d (.int .u64 s_0), .d (.int .u64 s_1), .d (.int .u64 s_2), .d (.int .u64 s_3), .d (.int .u64 s_4), .d (.int .i64 s_5)])], 1⟩ [(decide ((t20 : Int) < t19)) = false] (by kernel_rfl) ⟨b13_e0, trivial⟩ ?_
      have h := Option.some.inj h
      subst h
      exact hk
def f56_sip_Sum_L3 : Nat → (List (List Int)) → Int → Int → Int → Int → Int → Int → Int → Int → Option (Int × Int × Int × Int × Int × Int)
  | 0, _, _, _, _, _, _, _, _, _ => none
  | n + 1, t12, t13, t14, s_0, s_1, s_2, s_3, s_4, s_5 =>
    if (decide ((t14 : Int) < t13)) = true then
      if (0 : Int) ≤ t14 ∧ t14 < (((t12).length : Nat) : Int) then
      (f56_sip_Sum_L6 n t12 t13 t14 (t12.getD t14.toNat []) (((t12.getD t14.toNat []).length : Nat) : Int) 0 s_0 s_1 s_2 s_3 s_4 s_5).bind fun w40 =>
      f56_sip_Sum_L3 n w40.1 w40.2.1 (IntKind.wrap .i64 (w40.2.2.1 + 1)) w40.2.2.2.1 w40.2.2.2.2.1 w40.2.2.2.2.2.1 w40.2.2.2.2.2.2.1 w40.2.2.2.2.2.2.2.1 w40.2.2.2.2.2.2.2.2
      else none
    else
      some ((s_0, s_1, s_2, s_3, s_4, s_5))
def f56_sip_Sum_L3_k (e : Int × Int × Int × Int × Int × Int) (o : Out) : Prop := At Go.Proofs.Try.prog Go.Proofs.Try.f56 0 11 ⟨[(5, .one (.c (.ptr 0 0)))], [], [(0, [.d (.int .u64 e.1), .d (.int .u64 e.2.1), .d (.int .u64 e.2.2.1), .d (.int .u64 e.2.2.2.1), .d (.int .u64 e.2.2.2.2.1), .d (.int .i64 e.2.2.2.2.2)])], 1⟩ o
theorem f56_sip_Sum_L3_ok (n : Nat) : ∀ (t12 : List (List Int)) (t13 : Int) (t14 : Int) (s_0 : Int) (s_1 : Int) (s_2 : Int) (s_3 : Int) (s_4 : Int) (s_5 : Int) (w : Int × Int × Int × Int × Int × Int) (h : f56_sip_Sum_L3 n t12 t13 t14 s_0 s_1 s_2 s_3 s_4 s_5 = some w) (o : Out) (hk : f56_sip_Sum_L3_k w o), At Go.Proofs.Try.prog Go.Proofs.Try.f56 0 3 ⟨[(5, .one (.c (.ptr 0 0))), (12, .one (.c (.d (.sl (.slice (.int .u8)) t12)))), (13, .one (.c (.d (.int .i64 t13)))), (14, .one (.c (.d (.int .i64 t14))))], [], [(0, [.d (.int .u64 s_0), .d (.int .u64 s_1), .d (.int .u64 s_2), .d (.int .u64 s_3), .d (.int .u64 s_4), .d (.int .i64 s_5)])], 1⟩ o := by
  induction n with
  | zero => intro t12 t13 t14 s_0 s_1 s_2 s_3 s_4 s_5 w h; rw [f56_sip_Sum_L3] at h; cases h
  | succ n ih =>
    intro t12 t13 t14 s_0 s_1 s_2 s_3 s_4 s_5 w h o hk
    rw [f56_sip_Sum_L3] at h
    rcases iteS h with ⟨b10_e0, h⟩ | ⟨b10_e0, h⟩
    · refine At.step hm ht ⟨[], [true], [], [5, 12, 13, 14], [0]⟩ 4 ⟨[(5, .one (.c (.ptr 0 0))), (12, .one (.c (.d (.sl (.slice (.int .u8)) t12)))), (13, .one (.c (.d (.int .i64 t13)))), (14, .one (.c (.d (.int .i64 t14))))], [], [(0, [.d (.int .u64 s_0), .d (.int .u64 s_1), .d (.int .u64 s_2), .d (.int .u64 s_3), .d (.int .u64 s_4), .d (.int .i64 s_5)])], 1⟩ [(decide ((t14 : Int) < t13)) = true] (by kernel_rfl) ⟨b10_e0, trivial⟩ ?_
      obtain ⟨g11_0, h⟩ := ifS h
      refine At.step hm ht ⟨[], [], [], [5, 7, 12, 13, 14], [0]⟩ 5 ⟨[(5, .one (.c (.ptr 0 0))), (7, .one (.c (.d (.sl (.int .u8) (t12.getD t14.toNat []))))), (12, .one (.c (.d (.sl (.slice (.int .u8)) t12)))), (13, .one (.c (.d (.int .i64 t13)))), (14, .one (.c (.d (.int .i64 t14))))], [], [(0, [.d (.int .u64 s_0), .d (.int .u64 s_1), .d (.int .u64 s_2), .d (.int .u64 s_3), .d (.int .u64 s_4), .d (.int .i64 s_5)])], 1⟩ [(0 : Int) ≤ t14 ∧ t14 < (((t12).length : Nat) : Int)] (by kernel_rfl) ⟨g11_0, trivial⟩ ?_
      refine At.step hm ht ⟨[], [], [], [5, 12, 13, 14, 18, 19, 20], [0]⟩ 6 ⟨[(5, .one (.c (.ptr 0 0))), (12, .one (.c (.d (.sl (.slice (.int .u8)) t12)))), (13, .one (.c (.d (.int .i64 t13)))), (14, .one (.c (.d (.int .i64 t14)))), (18, .one (.c (.d (.sl (.int .u8) (t12.getD t14.toNat []))))), (19, .one (.c (.d (.int .i64 (((t12.getD t14.toNat []).length : Nat) : Int))))), (20, .one (.c (.d (.int .i64 0))))], [], [(0, [.d (.int .u64 s_0), .d (.int .u64 s_1), .d (.int .u64 s_2), .d (.int .u64 s_3), .d (.int .u64 s_4), .d (.int .i64 s_5)])], 1⟩ [] (by kernel_rfl) trivial ?_
      obtain ⟨w40, cw40, h⟩ := bindS h
      refine f56_sip_Sum_L6_ok n t12 t13 t14 (t12.getD t14.toNat []) (((t12.getD t14.toNat []).length : Nat) : Int) 0 s_0 s_1 s_2 s_3 s_4 s_5 w40 cw40 _ ?_
      show At Go.Proofs.Try.prog Go.Proofs.Try.f56 0 10 ⟨[(5, .one (.c (.ptr 0 0))), (12, .one (.c (.d (.sl (.slice (.int .u8)) w40.1)))), (13, .one (.c (.d (.int .i64 w40.2.1)))), (14, .one (.c (.d (.int .i64 w40.2.2.1))))], [], [(0, [.d (.int .u64 w40.2.2.2.1), .d (.int .u64 w40.2.2.2.2.1), .d (.int .u64 w40.2.2.2.2.2.1), .d (.int .u64 w40.2.2.2.2.2.2.1), .d (.int .u64 w40.2.2.2.2.2.2.2.1), .d (.int .i64 w40.2.2.2.2.2.2.2.2)])], 1⟩ _
      refine At.step hm ht ⟨[], [], [], [5, 12, 13, 14], [0]⟩ 3 ⟨[(5, .one (.c (.ptr 0 0))), (12, .one (.c (.d (.sl (.slice (.int .u8)) w40.1)))), (13, .one (.c (.d (.int .i64 w40.2.1)))), (14, .one (.c (.d (.int .i64 (IntKind.wrap .i64 (w40.2.2.1 + 1))))))], [], [(0, [.d (.int .u64 w40.2.2.2.1), .d (.int .u64 w40.2.2.2.2.1), .d (.int .u64 w40.2.2.2.2.2.1), .d (.int .u64 w40.2.2.2.2.2.2.1), .d (.int .u64 w40.2.2.2.2.2.2.2.1), .d (.int .i64 w40.2.2.2.2.2.2.2.2)])], 1⟩ [] (by kernel_rfl) trivial ?_
      exact ih w40.1 w40.2.1 (IntKind.wrap .i64 (w40.2.2.1 + 1)) w40.2.2.2.1 w40.2.2.2.2.1 w40.2.2.2.2.2.1 w40.2.2.2.2.2.2.1 w40.2.2.2.2.2.2.2.1 w40.2.2.2.2.2.2.2.2 w h o hk
    · refine At.step hm ht ⟨[], [false], [], [5], [0]⟩ 11 ⟨[(5, .one (.c (.ptr 0 0)))], [], [(0, [.d (.int .u64 s_0), .d (.int .u64 s_1), .d (.int .u64 s_2), .d (.int .u64 s_3), .d (.int .u64 s_4), .d (.int .i64 s_5)])], 1⟩ [(decide ((t14 : Int) < t13)) = false] (by kernel_rfl) ⟨b10_e0, trivial⟩ ?_
      have h := Option.some.inj h
      subst h
      exact hk
def f56_sip_Sum (n : Nat) (k_0 : Int) (k_1 : Int) (parts : List (List Int)) : Option (Int) :=
  (f74_sip_begin k_0 k_1).bind fun r6_0 =>
  (f56_sip_Sum_L3 n parts ((parts.length : Nat) : Int) 0 r6_0.1 r6_0.2.1 r6_0.2.2.1 r6_0.2.2.2.1 r6_0.2.2.2.2.1 r6_0.2.2.2.2.2).bind fun w43 =>
  (f76_sip_state_end n w43.1 w43.2.1 w43.2.2.1 w43.2.2.2.1 w43.2.2.2.2.1 w43.2.2.2.2.2).bind fun r45_0 =>
  some r45_0.1
theorem f56_sip_Sum_ok (n : Nat) (k_0 : Int) (k_1 : Int) (parts : List (List Int)) (r : Int) (h : f56_sip_Sum n k_0 k_1 parts = some r) : FnOK Go.Proofs.Try.prog 56 (f56_sip_Sum_in k_0 k_1 parts) (f56_sip_Sum_out r) := by
  unfold f56_sip_Sum at h
  refine At.fn (r := 0) Go.Proofs.Try.func56 rfl (by kernel_rfl) rfl rfl (by kernel_rfl) ?_
  show At Go.Proofs.Try.prog Go.Proofs.Try.f56 0 0 ⟨[(0, .one (.agg [.d (.int .u64 k_0), .d (.int .u64 k_1)])), (1, .one (.c (.d (.sl (.slice (.int .u8)) parts))))], [], [], 0⟩ _
  refine At.step hm ht ⟨[], [], [], [1, 2], [0]⟩ 1 ⟨[(1, .one (.c (.d (.sl (.slice (.int .u8)) parts)))), (2, .one (.c (.ptr 0 0)))], [], [(0, [.d (.int .u64 k_0), .d (.int .u64 k_1)])], 1⟩ [] (by kernel_rfl) trivial ?_
  obtain ⟨r6_0, cr6_0, h⟩ := bindS h
  refine At.step hm ht ⟨[(1, .call [] [] (f74_sip_begin_out r6_0))], [], [], [1, 5], [2]⟩ 2 ⟨[(1, .one (.c (.d (.sl (.slice (.int .u8)) parts)))), (5, .one (.c (.ptr 0 0)))], [], [(0, [.d (.int .u64 r6_0.1), .d (.int .u64 r6_0.2.1), .d (.int .u64 r6_0.2.2.1), .d (.int .u64 r6_0.2.2.2.1), .d (.int .u64 r6_0.2.2.2.2.1), .d (.int .i64 r6_0.2.2.2.2.2)])], 1⟩ [FnOK Go.Proofs.Try.prog 74 (f74_sip_begin_in k_0 k_1) (f74_sip_begin_out r6_0)] (by kernel_rfl) ⟨(f74_sip_begin_ok k_0 k_1 r6_0 cr6_0), trivial⟩ ?_
  refine At.step hm ht ⟨[], [], [], [5, 12, 13, 14], [0]⟩ 3 ⟨[(5, .one (.c (.ptr 0 0))), (12, .one (.c (.d (.sl (.slice (.int .u8)) parts)))), (13, .one (.c (.d (.int .i64 ((parts.length : Nat) : Int))))), (14, .one (.c (.d (.int .i64 0))))], [], [(0, [.d (.int .u64 r6_0.1), .d (.int .u64 r6_0.2.1), .d (.int .u64 r6_0.2.2.1), .d (.int .u64 r6_0.2.2.2.1), .d (.int .u64 r6_0.2.2.2.2.1), .d (.int .i64 r6_0.2.2.2.2.2)])], 1⟩ [] (by kernel_rfl) trivial ?_
  obtain ⟨w43, cw43, h⟩ := bindS h
  refine f56_sip_Sum_L3_ok n parts ((parts.length : Nat) : Int) 0 r6_0.1 r6_0.2.1 r6_0.2.2.1 r6_0.2.2.2.1 r6_0.2.2.2.2.1 r6_0.2.2.2.2.2 w43 cw43 _ ?_
  show At Go.Proofs.Try.prog Go.Proofs.Try.f56 0 11 ⟨[(5, .one (.c (.ptr 0 0)))], [], [(0, [.d (.int .u64 w43.1), .d (.int .u64 w43.2.1), .d (.int .u64 w43.2.2.1), .d (.int .u64 w43.2.2.2.1), .d (.int .u64 w43.2.2.2.2.1), .d (.int .i64 w43.2.2.2.2.2)])], 1⟩ _
  obtain ⟨r45_0, cr45_0, h⟩ := bindS h
  have h := Option.some.inj h
  subst h
  exact At.fin hm ht ⟨[(1, .call [0] [] (f76_sip_state_end_out r45_0))], [], [], [4], []⟩ [FnOK Go.Proofs.Try.prog 76 (f76_sip_state_end_in w43.1 w43.2.1 w43.2.2.1 w43.2.2.2.1 w43.2.2.2.2.1 w43.2.2.2.2.2) (f76_sip_state_end_out r45_0)] (by kernel_rfl) ⟨(f76_sip_state_end_ok n w43.1 w43.2.1 w43.2.2.1 w43.2.2.2.1 w43.2.2.2.2.1 w43.2.2.2.2.2 r45_0 cr45_0), trivial⟩
/-! brougham/broughamref03.left -/
def f81_broughamref03_left_in (x : Int) (by_ : Int) : Inn := ⟨[.c (.d (.int .u64 x)), .c (.d (.int .i64 by_))], [], [], 0⟩
def f81_broughamref03_left_out (r : Int) : Out := ⟨.one (.c (.d (.int .u64 r))), [], [], 0⟩
def f81_broughamref03_left (x : Int) (by_ : Int) : Option (Int) :=
  if (0 : Int) ≤ (IntKind.wrap .u64 by_) then
  if (0 : Int) ≤ (IntKind.wrap .u64 (IntKind.wrap .i64 (64 - by_))) then
  some (bits .or .u64 (IntKind.wrap .u64 (x * 2 ^ (min (IntKind.wrap .u64 by_).toNat (IntKind.bits .u64)))) (Int.fdiv x (2 ^ (min (IntKind.wrap .u64 (IntKind.wrap .i64 (64 - by_))).toNat (IntKind.bits .u64)))))
  else none
  else none
theorem f81_broughamref03_left_ok (x : Int) (by_ : Int) (r : Int) (h : f81_broughamref03_left x by_ = some r) : FnOK Go.Proofs.Try.prog 81 (f81_broughamref03_left_in x by_) (f81_broughamref03_left_out r) := by
  unfold f81_broughamref03_left at h
  refine At.fn (r := 0) Go.Proofs.Try.func81 rfl (by kernel_rfl) rfl rfl (by kernel_rfl) ?_
  show At Go.Proofs.Try.prog Go.Proofs.Try.f81 0 0 ⟨[(0, .one (.c (.d (.int .u64 x)))), (1, .one (.c (.d (.int .i64 by_))))], [], [], 0⟩ _
  refine At.step hm ht ⟨[], [], [], [0, 1], []⟩ 1 ⟨[(0, .one (.c (.d (.int .u64 x)))), (1, .one (.c (.d (.int .i64 by_))))], [], [], 0⟩ [] (by kernel_rfl) trivial ?_
  obtain ⟨g75_0, h⟩ := ifS h
  obtain ⟨g75_1, h⟩ := ifS h
  have h := Option.some.inj h
  subst h
  exact At.fin hm ht ⟨[], [], [], [4], []⟩ [(0 : Int) ≤ (IntKind.wrap .u64 by_), (0 : Int) ≤ (IntKind.wrap .u64 (IntKind.wrap .i64 (64 - by_)))] (by kernel_rfl) ⟨g75_0, g75_1, trivial⟩
/-! brougham/broughamref03.round -/
def f78_broughamref03_round_in (v__0 : Int) (v__1 : Int) (v__2 : Int) (v__3 : Int) : Inn := ⟨[.agg [.d (.int .u64 v__0), .d (.int .u64 v__1), .d (.int .u64 v__2), .d (.int .u64 v__3)]], [], [], 0⟩
def f78_broughamref03_round_out (r : Int × Int × Int × Int) : Out := ⟨.one (.agg [.d (.int .u64 r.1), .d (.int .u64 r.2.1), .d (.int .u64 r.2.2.1), .d (.int .u64 r.2.2.2)]), [], [(0, [.d (.int .u64 r.1), .d (.int .u64 r.2.1), .d (.int .u64 r.2.2.1), .d (.int .u64 r.2.2.2)])], 1⟩
def f78_broughamref03_round (v__0 : Int) (v__1 : Int) (v__2 : Int) (v__3 : Int) : Option (Int × Int × Int × Int) :=
  (f81_broughamref03_left v__1 13).bind fun r73_0 =>
  (f81_broughamref03_left (IntKind.wrap .u64 (v__0 + v__1)) 32).bind fun r76_0 =>
  (f81_broughamref03_left v__3 16).bind fun r78_0 =>
  (f81_broughamref03_left (bits .xor .u64 r78_0 (IntKind.wrap .u64 (v__2 + v__3))) 21).bind fun r80_0 =>
  (f81_broughamref03_left (bits .xor .u64 r73_0 (IntKind.wrap .u64 (v__0 + v__1))) 17).bind fun r82_0 =>
  (f81_broughamref03_left (IntKind.wrap .u64 ((IntKind.wrap .u64 (v__2 + v__3)) + (bits .xor .u64 r73_0 (IntKind.wrap .u64 (v__0 + v__1))))) 32).bind fun r83_0 =>
  some ((IntKind.wrap .u64 (r76_0 + (bits .xor .u64 r78_0 (IntKind.wrap .u64 (v__2 + v__3))))), (bits .xor .u64 r82_0 (IntKind.wrap .u64 ((IntKind.wrap .u64 (v__2 + v__3)) + (bits .xor .u64 r73_0 (IntKind.wrap .u64 (v__0 + v__1)))))), r83_0, (bits .xor .u64 r80_0 (IntKind.wrap .u64 (r76_0 + (bits .xor .u64 r78_0 (IntKind.wrap .u64 (v__2 + v__3)))))))
theorem f78_broughamref03_round_ok (v__0 : Int) (v__1 : Int) (v__2 : Int) (v__3 : Int) (r : Int × Int × Int × Int) (h : f78_broughamref03_round v__0 v__1 v__2 v__3 = some r) : FnOK Go.Proofs.Try.prog 78 (f78_broughamref03_round_in v__0 v__1 v__2 v__3) (f78_broughamref03_round_out r) := by
  unfold f78_broughamref03_round at h
  refine At.fn (r := 0) Go.Proofs.Try.func78 rfl (by kernel_rfl) rfl rfl (by kernel_rfl) ?_
  show At Go.Proofs.Try.prog Go.Proofs.Try.f78 0 0 ⟨[(0, .one (.agg [.d (.int .u64 v__0), .d (.int .u64 v__1), .d (.int .u64 v__2), .d (.int .u64 v__3)]))], [], [], 0⟩ _
  refine At.step hm ht ⟨[], [], [], [1, 2], [0, 1]⟩ 1 ⟨[(1, .one (.c (.ptr 0 0))), (2, .one (.c (.ptr 1 0)))], [], [(0, [.d (.int .u64 v__0), .d (.int .u64 v__1), .d (.int .u64 v__2), .d (.int .u64 v__3)]), (1, [.d (.int .u64 0), .d (.int .u64 0), .d (.int .u64 0), .d (.int .u64 0)])], 2⟩ [] (by kernel_rfl) trivial ?_
  refine At.step hm ht ⟨[], [], [], [1, 2], [0, 1]⟩ 2 ⟨[(1, .one (.c (.ptr 0 0))), (2, .one (.c (.ptr 1 0)))], [], [(0, [.d (.int .u64 (IntKind.wrap .u64 (v__0 + v__1))), .d (.int .u64 v__1), .d (.int .u64 v__2), .d (.int .u64 v__3)]), (1, [.d (.int .u64 0), .d (.int .u64 0), .d (.int .u64 0), .d (.int .u64 0)])], 2⟩ [0 + 1 ≤ 4] (by kernel_rfl) ⟨(by decide), trivial⟩ ?_
  obtain ⟨r73_0, cr73_0, h⟩ := bindS h
  refine At.step hm ht ⟨[(2, .call [] [] (f81_broughamref03_left_out r73_0))], [], [], [1, 2], [0, 1]⟩ 3 ⟨[(1, .one (.c (.ptr 0 0))), (2, .one (.c (.ptr 1 0)))], [], [(0, [.d (.int .u64 (IntKind.wrap .u64 (v__0 + v__1))), .d (.int .u64 (bits .xor .u64 r73_0 (IntKind.wrap .u64 (v__0 + v__1)))), .d (.int .u64 v__2), .d (.int .u64 v__3)]), (1, [.d (.int .u64 0), .d (.int .u64 0), .d (.int .u64 0), .d (.int .u64 0)])], 2⟩ [FnOK Go.Proofs.Try.prog 81 (f81_broughamref03_left_in v__1 13) (f81_broughamref03_left_out r73_0), 1 + 1 ≤ 4] (by kernel_rfl) ⟨(f81_broughamref03_left_ok v__1 13 r73_0 cr73_0), (by decide), trivial⟩ ?_
  obtain ⟨r76_0, cr76_0, h⟩ := bindS h
  refine At.step hm ht ⟨[(2, .call [] [] (f81_broughamref03_left_out r76_0))], [], [], [1, 2], [0, 1]⟩ 4 ⟨[(1, .one (.c (.ptr 0 0))), (2, .one (.c (.ptr 1 0)))], [], [(0, [.d (.int .u64 r76_0), .d (.int .u64 (bits .xor .u64 r73_0 (IntKind.wrap .u64 (v__0 + v__1)))), .d (.int .u64 v__2), .d (.int .u64 v__3)]), (1, [.d (.int .u64 0), .d (.int .u64 0), .d (.int .u64 0), .d (.int .u64 0)])], 2⟩ [FnOK Go.Proofs.Try.prog 81 (f81_broughamref03_left_in (IntKind.wrap .u64 (v__0 + v__1)) 32) (f81_broughamref03_left_out r76_0), 0 + 1 ≤ 4] (by kernel_rfl) ⟨(f81_broughamref03_left_ok (IntKind.wrap .u64 (v__0 + v__1)) 32 r76_0 cr76_0), (by decide), trivial⟩ ?_
  refine At.step hm ht ⟨[], [], [], [1, 2], [0, 1]⟩ 5 ⟨[(1, .one (.c (.ptr 0 0))), (2, .one (.c (.ptr 1 0)))], [], [(0, [.d (.int .u64 r76_0), .d (.int .u64 (bits .xor .u64 r73_0 (IntKind.wrap .u64 (v__0 + v__1)))), .d (.int .u64 (IntKind.wrap .u64 (v__2 + v__3))), .d (.int .u64 v__3)]), (1, [.d (.int .u64 0), .d (.int .u64 0), .d (.int .u64 0), .d (.int .u64 0)])], 2⟩ [2 + 1 ≤ 4] (by kernel_rfl) ⟨(by decide), trivial⟩ ?_
  obtain ⟨r78_0, cr78_0, h⟩ := bindS h
  refine At.step hm ht ⟨[(2, .call [] [] (f81_broughamref03_left_out r78_0))], [], [], [1, 2], [0, 1]⟩ 6 ⟨[(1, .one (.c (.ptr 0 0))), (2, .one (.c (.ptr 1 0)))], [], [(0, [.d (.int .u64 r76_0), .d (.int .u64 (bits .xor .u64 r73_0 (IntKind.wrap .u64 (v__0 + v__1)))), .d (.int .u64 (IntKind.wrap .u64 (v__2 + v__3))), .d (.int .u64 (bits .xor .u64 r78_0 (IntKind.wrap .u64 (v__2 + v__3))))]), (1, [.d (.int .u64 0), .d (.int .u64 0), .d (.int .u64 0), .d (.int .u64 0)])], 2⟩ [FnOK Go.Proofs.Try.prog 81 (f81_broughamref03_left_in v__3 16) (f81_broughamref03_left_out r78_0), 3 + 1 ≤ 4] (by kernel_rfl) ⟨(f81_broughamref03_left_ok v__3 16 r78_0 cr78_0), (by decide), trivial⟩ ?_
  refine At.step hm ht ⟨[], [], [], [1, 2], [0, 1]⟩ 7 ⟨[(1, .one (.c (.ptr 0 0))), (2, .one (.c (.ptr 1 0)))], [], [(0, [.d (.int .u64 (IntKind.wrap .u64 (r76_0 + (bits .xor .u64 r78_0 (IntKind.wrap .u64 (v__2 + v__3)))))), .d (.int .u64 (bits .xor .u64 r73_0 (IntKind.wrap .u64 (v__0 + v__1)))), .d (.int .u64 (IntKind.wrap .u64 (v__2 + v__3))), .d (.int .u64 (bits .xor .u64 r78_0 (IntKind.wrap .u64 (v__2 + v__3))))]), (1, [.d (.int .u64 0), .d (.int .u64 0), .d (.int .u64 0), .d (.int .u64 0)])], 2⟩ [0 + 1 ≤ 4] (by kernel_rfl) ⟨(by decide), trivial⟩ ?_
  obtain ⟨r80_0, cr80_0, h⟩ := bindS h
  refine At.step hm ht ⟨[(2, .call [] [] (f81_broughamref03_left_out r80_0))], [], [], [1, 2], [0, 1]⟩ 8 ⟨[(1, .one (.c (.ptr 0 0))), (2, .one (.c (.ptr 1 0)))], [], [(0, [.d (.int .u64 (IntKind.wrap .u64 (r76_0 + (bits .xor .u64 r78_0 (IntKind.wrap .u64 (v__2 + v__3)))))), .d (.int .u64 (bits .xor .u64 r73_0 (IntKind.wrap .u64 (v__0 + v__1)))), .d (.int .u64 (IntKind.wrap .u64 (v__2 + v__3))), .d (.int .u64 (bits .xor .u64 r80_0 (IntKind.wrap .u64 (r76_0 + (bits .xor .u64 r78_0 (IntKind.wrap .u64 (v__2 + v__3)))))))]), (1, [.d (.int .u64 0), .d (.int .u64 0), .d (.int .u64 0), .d (.int .u64 0)])], 2⟩ [FnOK Go.Proofs.Try.prog 81 (f81_broughamref03_left_in (bits .xor .u64 r78_0 (IntKind.wrap .u64 (v__2 + v__3))) 21) (f81_broughamref03_left_out r80_0), 3 + 1 ≤ 4] (by kernel_rfl) ⟨(f81_broughamref03_left_ok (bits .xor .u64 r78_0 (IntKind.wrap .u64 (v__2 + v__3))) 21 r80_0 cr80_0), (by decide), trivial⟩ ?_
  refine At.step hm ht ⟨[], [], [], [1, 2], [0, 1]⟩ 9 ⟨[(1, .one (.c (.ptr 0 0))), (2, .one (.c (.ptr 1 0)))], [], [(0, [.d (.int .u64 (IntKind.wrap .u64 (r76_0 + (bits .xor .u64 r78_0 (IntKind.wrap .u64 (v__2 + v__3)))))), .d (.int .u64 (bits .xor .u64 r73_0 (IntKind.wrap .u64 (v__0 + v__1)))), .d (.int .u64 (IntKind.wrap .u64 ((IntKind.wrap .u64 (v__2 + v__3)) + (bits .xor .u64 r73_0 (IntKind.wrap .u64 (v__0 + v__1)))))), .d (.int .u64 (bits .xor .u64 r80_0 (IntKind.wrap .u64 (r76_0 + (bits .xor .u64 r78_0 (IntKind.wrap .u64 (v__2 + v__3)))))))]), (1, [.d (.int .u64 0), .d (.int .u64 0), .d (.int .u64 0), .d (.int .u64 0)])], 2⟩ [2 + 1 ≤ 4] (by kernel_rfl) ⟨(by decide), trivial⟩ ?_
  obtain ⟨r82_0, cr82_0, h⟩ := bindS h
  refine At.step hm ht ⟨[(2, .call [] [] (f81_broughamref03_left_out r82_0))], [], [], [1, 2], [0, 1]⟩ 10 ⟨[(1, .one (.c (.ptr 0 0))), (2, .one (.c (.ptr 1 0)))], [], [(0, [.d (.int .u64 (IntKind.wrap .u64 (r76_0 + (bits .xor .u64 r78_0 (IntKind.wrap .u64 (v__2 + v__3)))))), .d (.int .u64 (bits .xor .u64 r82_0 (IntKind.wrap .u64 ((IntKind.wrap .u64 (v__2 + v__3)) + (bits .xor .u64 r73_0 (IntKind.wrap .u64 (v__0 + v__1))))))), .d (.int .u64 (IntKind.wrap .u64 ((IntKind.wrap .u64 (v__2 + v__3)) + (bits .xor .u64 r73_0 (IntKind.wrap .u64 (v__0 + v__1)))))), .d (.int .u64 (bits .xor .u64 r80_0 (IntKind.wrap .u64 (r76_0 + (bits .xor .u64 r78_0 (IntKind.wrap .u64 (v__2 + v__3)))))))]), (1, [.d (.int .u64 0), .d (.int .u64 0), .d (.int .u64 0), .d (.int .u64 0)])], 2⟩ [FnOK Go.Proofs.Try.prog 81 (f81_broughamref03_left_in (bits .xor .u64 r73_0 (IntKind.wrap .u64 (v__0 + v__1))) 17) (f81_broughamref03_left_out r82_0), 1 + 1 ≤ 4] (by kernel_rfl) ⟨(f81_broughamref03_left_ok (bits .xor .u64 r73_0 (IntKind.wrap .u64 (v__0 + v__1))) 17 r82_0 cr82_0), (by decide), trivial⟩ ?_
  obtain ⟨r83_0, cr83_0, h⟩ := bindS h
  refine At.step hm ht ⟨[(2, .call [] [] (f81_broughamref03_left_out r83_0))], [], [], [1, 2], [0, 1]⟩ 11 ⟨[(1, .one (.c (.ptr 0 0))), (2, .one (.c (.ptr 1 0)))], [], [(0, [.d (.int .u64 (IntKind.wrap .u64 (r76_0 + (bits .xor .u64 r78_0 (IntKind.wrap .u64 (v__2 + v__3)))))), .d (.int .u64 (bits .xor .u64 r82_0 (IntKind.wrap .u64 ((IntKind.wrap .u64 (v__2 + v__3)) + (bits .xor .u64 r73_0 (IntKind.wrap .u64 (v__0 + v__1))))))), .d (.int .u64 r83_0), .d (.int .u64 (bits .xor .u64 r80_0 (IntKind.wrap .u64 (r76_0 + (bits .xor .u64 r78_0 (IntKind.wrap .u64 (v__2 + v__3)))))))]), (1, [.d (.int .u64 0), .d (.int .u64 0), .d (.int .u64 0), .d (.int .u64 0)])], 2⟩ [FnOK Go.Proofs.Try.prog 81 (f81_broughamref03_left_in (IntKind.wrap .u64 ((IntKind.wrap .u64 (v__2 + v__3)) + (bits .xor .u64 r73_0 (IntKind.wrap .u64 (v__0 + v__1))))) 32) (f81_broughamref03_left_out r83_0), 2 + 1 ≤ 4] (by kernel_rfl) ⟨(f81_broughamref03_left_ok (IntKind.wrap .u64 ((IntKind.wrap .u64 (v__2 + v__3)) + (bits .xor .u64 r73_0 (IntKind.wrap .u64 (v__0 + v__1))))) 32 r83_0 cr83_0), (by decide), trivial⟩ ?_
  have h := Option.some.inj h
  subst h
  exact At.fin hm ht ⟨[], [], [], [2], [1]⟩ [0 + 4 ≤ 4] (by kernel_rfl) ⟨(by decide), trivial⟩
/-! brougham/broughamref03.take -/
def f77_broughamref03_take_in (v__0 : Int) (v__1 : Int) (v__2 : Int) (v__3 : Int) (m : Int) : Inn := ⟨[.agg [.d (.int .u64 v__0), .d (.int .u64 v__1), .d (.int .u64 v__2), .d (.int .u64 v__3)], .c (.d (.int .u64 m))], [], [], 0⟩
def f77_broughamref03_take_out (r : Int × Int × Int × Int) : Out := ⟨.one (.agg [.d (.int .u64 r.1), .d (.int .u64 r.2.1), .d (.int .u64 r.2.2.1), .d (.int .u64 r.2.2.2)]), [], [(0, [.d (.int .u64 r.1), .d (.int .u64 r.2.1), .d (.int .u64 r.2.2.1), .d (.int .u64 r.2.2.2)])], 1⟩
def f77_broughamref03_take (v__0 : Int) (v__1 : Int) (v__2 : Int) (v__3 : Int) (m : Int) : Option (Int × Int × Int × Int) :=
  (f78_broughamref03_round v__0 v__1 v__2 (bits .xor .u64 v__3 m)).bind fun r70_0 =>
  (f78_broughamref03_round r70_0.1 r70_0.2.1 r70_0.2.2.1 r70_0.2.2.2).bind fun r70_1 =>
  some ((bits .xor .u64 r70_1.1 m), r70_1.2.1, r70_1.2.2.1, r70_1.2.2.2)
theorem f77_broughamref03_take_ok (v__0 : Int) (v__1 : Int) (v__2 : Int) (v__3 : Int) (m : Int) (r : Int × Int × Int × Int) (h : f77_broughamref03_take v__0 v__1 v__2 v__3 m = some r) : FnOK Go.Proofs.Try.prog 77 (f77_broughamref03_take_in v__0 v__1 v__2 v__3 m) (f77_broughamref03_take_out r) := by
  unfold f77_broughamref03_take at h
  refine At.fn (r := 0) Go.Proofs.Try.func77 rfl (by kernel_rfl) rfl rfl (by kernel_rfl) ?_
  show At Go.Proofs.Try.prog Go.Proofs.Try.f77 0 0 ⟨[(0, .one (.agg [.d (.int .u64 v__0), .d (.int .u64 v__1), .d (.int .u64 v__2), .d (.int .u64 v__3)])), (1, .one (.c (.d (.int .u64 m))))], [], [], 0⟩ _
  refine At.step hm ht ⟨[], [], [], [1, 2, 4], [0, 1]⟩ 1 ⟨[(1, .one (.c (.d (.int .u64 m)))), (2, .one (.c (.ptr 0 0))), (4, .one (.c (.ptr 1 0)))], [], [(0, [.d (.int .u64 v__0), .d (.int .u64 v__1), .d (.int .u64 v__2), .d (.int .u64 v__3)]), (1, [.d (.int .u64 0), .d (.int .u64 0), .d (.int .u64 0), .d (.int .u64 0)])], 2⟩ [] (by kernel_rfl) trivial ?_
  refine At.step hm ht ⟨[], [], [], [1, 2, 4], [0, 1]⟩ 2 ⟨[(1, .one (.c (.d (.int .u64 m)))), (2, .one (.c (.ptr 0 0))), (4, .one (.c (.ptr 1 0)))], [], [(0, [.d (.int .u64 v__0), .d (.int .u64 v__1), .d (.int .u64 v__2), .d (.int .u64 (bits .xor .u64 v__3 m))]), (1, [.d (.int .u64 0), .d (.int .u64 0), .d (.int .u64 0), .d (.int .u64 0)])], 2⟩ [3 + 1 ≤ 4] (by kernel_rfl) ⟨(by decide), trivial⟩ ?_
  obtain ⟨r70_0, cr70_0, h⟩ := bindS h
  obtain ⟨r70_1, cr70_1, h⟩ := bindS h
  refine At.step hm ht ⟨[(1, .call [] [] (f78_broughamref03_round_out r70_0)), (2, .call [] [] (f78_broughamref03_round_out r70_1))], [], [], [1, 2, 4], [0, 1]⟩ 3 ⟨[(1, .one (.c (.d (.int .u64 m)))), (2, .one (.c (.ptr 0 0))), (4, .one (.c (.ptr 1 0)))], [], [(0, [.d (.int .u64 r70_1.1), .d (.int .u64 r70_1.2.1), .d (.int .u64 r70_1.2.2.1), .d (.int .u64 r70_1.2.2.2)]), (1, [.d (.int .u64 0), .d (.int .u64 0), .d (.int .u64 0), .d (.int .u64 0)])], 2⟩ [FnOK Go.Proofs.Try.prog 78 (f78_broughamref03_round_in v__0 v__1 v__2 (bits .xor .u64 v__3 m)) (f78_broughamref03_round_out r70_0), FnOK Go.Proofs.Try.prog 78 (f78_broughamref03_round_in r70_0.1 r70_0.2.1 r70_0.2.2.1 r70_0.2.2.2) (f78_broughamref03_round_out r70_1), 0 + 4 ≤ 4] (by kernel_rfl) ⟨(f78_broughamref03_round_ok v__0 v__1 v__2 (bits .xor .u64 v__3 m) r70_0 cr70_0), (f78_broughamref03_round_ok r70_0.1 r70_0.2.1 r70_0.2.2.1 r70_0.2.2.2 r70_1 cr70_1), (by decide), trivial⟩ ?_
  refine At.step hm ht ⟨[], [], [], [2, 4], [0, 1]⟩ 4 ⟨[(2, .one (.c (.ptr 0 0))), (4, .one (.c (.ptr 1 0)))], [], [(0, [.d (.int .u64 (bits .xor .u64 r70_1.1 m)), .d (.int .u64 r70_1.2.1), .d (.int .u64 r70_1.2.2.1), .d (.int .u64 r70_1.2.2.2)]), (1, [.d (.int .u64 0), .d (.int .u64 0), .d (.int .u64 0), .d (.int .u64 0)])], 2⟩ [0 + 1 ≤ 4] (by kernel_rfl) ⟨(by decide), trivial⟩ ?_
  have h := Option.some.inj h
  subst h
  exact At.fin hm ht ⟨[], [], [], [4], [1]⟩ [0 + 4 ≤ 4] (by kernel_rfl) ⟨(by decide), trivial⟩
/-! brougham/broughamref03.Sum -/
def f57_broughamref03_Sum_in (k_0 : Int) (k_1 : Int) (b : List Int) : Inn := ⟨[.agg [.d (.int .u64 k_0), .d (.int .u64 k_1)], .c (.d (.sl (.int .u8) b))], [], [], 0⟩
def f57_broughamref03_Sum_out (r : Int) : Out := ⟨.one (.c (.d (.int .u64 r))), [], [], 0⟩
def f57_broughamref03_Sum_L6 : Nat → (List Int) → Int → Int → Int → Int → Int → Int → Int → Option (List Int × Int × Int × Int × Int × Int × Int)
  | 0, _, _, _, _, _, _, _, _ => none
  | n + 1, b, at_, m, i, v__0, v__1, v__2, v__3 =>
    if (decide ((i : Int) ≥ 0)) = true then
      if (0 : Int) ≤ (IntKind.wrap .i64 (at_ + i)) ∧ (IntKind.wrap .i64 (at_ + i)) < (((b).length : Nat) : Int) then
      f57_broughamref03_Sum_L6 n b at_ (IntKind.wrap .u64 ((IntKind.wrap .u64 (m * 256)) + (IntKind.wrap .u64 (b.getD (IntKind.wrap .i64 (at_ + i)).toNat 0)))) (IntKind.wrap .i64 (i - 1)) v__0 v__1 v__2 v__3
      else none
    else
      some ((b, at_, m, v__0, v__1, v__2, v__3))
def f57_broughamref03_Sum_L6_k (e : List Int × Int × Int × Int × Int × Int × Int) (o : Out) : Prop := At Go.Proofs.Try.prog Go.Proofs.Try.f57 0 9 ⟨[(1, .one (.c (.d (.sl (.int .u8) e.1)))), (5, .one (.c (.ptr 0 0))), (6, .one (.c (.d (.int .i64 e.2.1)))), (7, .one (.c (.d (.int .u64 e.2.2.1))))], [], [(0, [.d (.int .u64 e.2.2.2.1), .d (.int .u64 e.2.2.2.2.1), .d (.int .u64 e.2.2.2.2.2.1), .d (.int .u64 e.2.2.2.2.2.2)])], 1⟩ o
theorem f57_broughamref03_Sum_L6_ok (n : Nat) : ∀ (b : List Int) (at_ : Int) (m : Int) (i : Int) (v__0 : Int) (v__1 : Int) (v__2 : Int) (v__3 : Int) (w : List Int × Int × Int × Int × Int × Int × Int) (h : f57_broughamref03_Sum_L6 n b at_ m i v__0 v__1 v__2 v__3 = some w) (o : Out) (hk : f57_broughamref03_Sum_L6_k w o), At Go.Proofs.Try.prog Go.Proofs.Try.f57 0 6 ⟨[(1, .one (.c (.d (.sl (.int .u8) b)))), (5, .one (.c (.ptr 0 0))), (6, .one (.c (.d (.int .i64 at_)))), (7, .one (.c (.d (.int .u64 m)))), (8, .one (.c (.d (.int .i64 i))))], [], [(0, [.d (.int .u64 v__0), .d (.int .u64 v__1), .d (.int .u64 v__2), .d (.int .u64 v__3)])], 1⟩ o := by
  induction n with
  | zero => intro b at_ m i v__0 v__1 v__2 v__3 w h; rw [f57_broughamref03_Sum_L6] at h; cases h
  | succ n ih =>
    intro b at_ m i v__0 v__1 v__2 v__3 w h o hk
    rw [f57_broughamref03_Sum_L6] at h
    rcases iteS h with ⟨b62_e0, h⟩ | ⟨b62_e0, h⟩
    · refine At.step hm ht ⟨[], [true], [], [1, 5, 6, 7, 8], [0]⟩ 8 ⟨[(1, .one (.c (.d (.sl (.int .u8) b)))), (5, .one (.c (.ptr 0 0))), (6, .one (.c (.d (.int .i64 at_)))), (7, .one (.c (.d (.int .u64 m)))), (8, .one (.c (.d (.int .i64 i))))], [], [(0, [.d (.int .u64 v__0), .d (.int .u64 v__1), .d (.int .u64 v__2), .d (.int .u64 v__3)])], 1⟩ [(decide ((i : Int) ≥ 0)) = true] (by kernel_rfl) ⟨b62_e0, trivial⟩ ?_
      obtain ⟨g63_0, h⟩ := ifS h
      refine At.step hm ht ⟨[], [], [], [1, 5, 6, 7, 8], [0]⟩ 7 ⟨[(1, .one (.c (.d (.sl (.int .u8) b)))), (5, .one (.c (.ptr 0 0))), (6, .one (.c (.d (.int .i64 at_)))), (7, .one (.c (.d (.int .u64 (IntKind.wrap .u64 ((IntKind.wrap .u64 (m * 256)) + (IntKind.wrap .u64 (b.getD (IntKind.wrap .i64 (at_ + i)).toNat 0)))))))), (8, .one (.c (.d (.int .i64 i))))], [], [(0, [.d (.int .u64 v__0), .d (.int .u64 v__1), .d (.int .u64 v__2), .d (.int .u64 v__3)])], 1⟩ [(0 : Int) ≤ (IntKind.wrap .i64 (at_ + i)) ∧ (IntKind.wrap .i64 (at_ + i)) < (((b).length : Nat) : Int)] (by kernel_rfl) ⟨g63_0, trivial⟩ ?_
      refine At.step hm ht ⟨[], [], [], [1, 5, 6, 7, 8], [0]⟩ 6 ⟨[(1, .one (.c (.d (.sl (.int .u8) b)))), (5, .one (.c (.ptr 0 0))), (6, .one (.c (.d (.int .i64 at_)))), (7, .one (.c (.d (.int .u64 (IntKind.wrap .u64 ((IntKind.wrap .u64 (m * 256)) + (IntKind.wrap .u64 (b.getD (IntKind.wrap .i64 (at_ + i)).toNat 0)))))))), (8, .one (.c (.d (.int .i64 (IntKind.wrap .i64 (i - 1))))))], [], [(0, [.d (.int .u64 v__0), .d (.int .u64 v__1), .d (.int .u64 v__2), .d (.int .u64 v__3)])], 1⟩ [] (by kernel_rfl) trivial ?_
      exact ih b at_ (IntKind.wrap .u64 ((IntKind.wrap .u64 (m * 256)) + (IntKind.wrap .u64 (b.getD (IntKind.wrap .i64 (at_ + i)).toNat 0)))) (IntKind.wrap .i64 (i - 1)) v__0 v__1 v__2 v__3 w h o hk
    · refine At.step hm ht ⟨[], [false], [], [1, 5, 6, 7], [0]⟩ 9 ⟨[(1, .one (.c (.d (.sl (.int .u8) b)))), (5, .one (.c (.ptr 0 0))), (6, .one (.c (.d (.int .i64 at_)))), (7, .one (.c (.d (.int .u64 m))))], [], [(0, [.d (.int .u64 v__0), .d (.int .u64 v__1), .d (.int .u64 v__2), .d (.int .u64 v__3)])], 1⟩ [(decide ((i : Int) ≥ 0)) = false] (by kernel_rfl) ⟨b62_e0, trivial⟩ ?_
      have h := Option.some.inj h
      subst h
      exact hk
def f57_broughamref03_Sum_L3 : Nat → (List Int) → Int → Int → Int → Int → Int → Option (List Int × Int × Int × Int × Int × Int)
  | 0, _, _, _, _, _, _ => none
  | n + 1, b, at_, v__0, v__1, v__2, v__3 =>
    if (decide (((IntKind.wrap .i64 (((b.length : Nat) : Int) - at_)) : Int) ≥ 8)) = true then
      (f57_broughamref03_Sum_L6 n b at_ 0 7 v__0 v__1 v__2 v__3).bind fun w65 =>
      (f77_broughamref03_take w65.2.2.2.1 w65.2.2.2.2.1 w65.2.2.2.2.2.1 w65.2.2.2.2.2.2 w65.2.2.1).bind fun r67_0 =>
      f57_broughamref03_Sum_L3 n w65.1 (IntKind.wrap .i64 (w65.2.1 + 8)) r67_0.1 r67_0.2.1 r67_0.2.2.1 r67_0.2.2.2
    else
      some ((b, at_, v__0, v__1, v__2, v__3))
def f57_broughamref03_Sum_L3_k (e : List Int × Int × Int × Int × Int × Int) (o : Out) : Prop := At Go.Proofs.Try.prog Go.Proofs.Try.f57 0 11 ⟨[(1, .one (.c (.d (.sl (.int .u8) e.1)))), (5, .one (.c (.ptr 0 0))), (6, .one (.c (.d (.int .i64 e.2.1))))], [], [(0, [.d (.int .u64 e.2.2.1), .d (.int .u64 e.2.2.2.1), .d (.int .u64 e.2.2.2.2.1), .d (.int .u64 e.2.2.2.2.2)])], 1⟩ o
theorem f57_broughamref03_Sum_L3_ok (n : Nat) : ∀ (b : List Int) (at_ : Int) (v__0 : Int) (v__1 : Int) (v__2 : Int) (v__3 : Int) (w : List Int × Int × Int × Int × Int × Int) (h : f57_broughamref03_Sum_L3 n b at_ v__0 v__1 v__2 v__3 = some w) (o : Out) (hk : f57_broughamref03_Sum_L3_k w o), At Go.Proofs.Try.prog Go.Proofs.Try.f57 0 3 ⟨[(1, .one (.c (.d (.sl (.int .u8) b)))), (5, .one (.c (.ptr 0 0))), (6, .one (.c (.d (.int .i64 at_))))], [], [(0, [.d (.int .u64 v__0), .d (.int .u64 v__1), .d (.int .u64 v__2), .d (.int .u64 v__3)])], 1⟩ o := by
  induction n with
  | zero => intro b at_ v__0 v__1 v__2 v__3 w h; rw [f57_broughamref03_Sum_L3] at h; cases h
  | succ n ih =>
    intro b at_ v__0 v__1 v__2 v__3 w h o hk
    rw [f57_broughamref03_Sum_L3] at h
    rcases iteS h with ⟨b59_e0, h⟩ | ⟨b59_e0, h⟩
    · refine At.step hm ht ⟨[], [true], [], [1, 5, 6], [0]⟩ 4 ⟨[(1, .one (.c (.d (.sl (.int .u8) b)))), (5, .one (.c (.ptr 0 0))), (6, .one (.c (.d (.int .i64 at_))))], [], [(0, [.d (.int .u64 v__0), .d (.int .u64 v__1), .d (.int .u64 v__2), .d (.int .u64 v__3)])], 1⟩ [(decide (((IntKind.wrap .i64 (((b.length : Nat) : Int) - at_)) : Int) ≥ 8)) = true] (by kernel_rfl) ⟨b59_e0, trivial⟩ ?_
      refine At.step hm ht ⟨[], [], [], [1, 5, 6, 7], [0]⟩ 5 ⟨[(1, .one (.c (.d (.sl (.int .u8) b)))), (5, .one (.c (.ptr 0 0))), (6, .one (.c (.d (.int .i64 at_)))), (7, .one (.c (.d (.int .u64 0))))], [], [(0, [.d (.int .u64 v__0), .d (.int .u64 v__1), .d (.int .u64 v__2), .d (.int .u64 v__3)])], 1⟩ [] (by kernel_rfl) trivial ?_
      refine At.step hm ht ⟨[], [], [], [1, 5, 6, 7, 8], [0]⟩ 6 ⟨[(1, .one (.c (.d (.sl (.int .u8) b)))), (5, .one (.c (.ptr 0 0))), (6, .one (.c (.d (.int .i64 at_)))), (7, .one (.c (.d (.int .u64 0)))), (8, .one (.c (.d (.int .i64 7))))], [], [(0, [.d (.int .u64 v__0), .d (.int .u64 v__1), .d (.int .u64 v__2), .d (.int .u64 v__3)])], 1⟩ [] (by kernel_rfl) trivial ?_
      obtain ⟨w65, cw65, h⟩ := bindS h
      refine f57_broughamref03_Sum_L6_ok n b at_ 0 7 v__0 v__1 v__2 v__3 w65 cw65 _ ?_
      show At Go.Proofs.Try.prog Go.Proofs.Try.f57 0 9 ⟨[(1, .one (.c (.d (.sl (.int .u8) w65.1)))), (5, .one (.c (.ptr 0 0))), (6, .one (.c (.d (.int .i64 w65.2.1)))), (7, .one (.c (.d (.int .u64 w65.2.2.1))))], [], [(0, [.d (.int .u64 w65.2.2.2.1), .d (.int .u64 w65.2.2.2.2.1), .d (.int .u64 w65.2.2.2.2.2.1), .d (.int .u64 w65.2.2.2.2.2.2)])], 1⟩ _
      obtain ⟨r67_0, cr67_0, h⟩ := bindS h
      refine At.step hm ht ⟨[(2, .call [] [] (f77_broughamref03_take_out r67_0))], [], [], [1, 5, 6], [0]⟩ 10 ⟨[(1, .one (.c (.d (.sl (.int .u8) w65.1)))), (5, .one (.c (.ptr 0 0))), (6, .one (.c (.d (.int .i64 w65.2.1))))], [], [(0, [.d (.int .u64 r67_0.1), .d (.int .u64 r67_0.2.1), .d (.int .u64 r67_0.2.2.1), .d (.int .u64 r67_0.2.2.2)])], 1⟩ [FnOK Go.Proofs.Try.prog 77 (f77_broughamref03_take_in w65.2.2.2.1 w65.2.2.2.2.1 w65.2.2.2.2.2.1 w65.2.2.2.2.2.2 w65.2.2.1) (f77_broughamref03_take_out r67_0), 0 + 4 ≤ 4] (by kernel_rfl) ⟨(f77_broughamref03_take_ok w65.2.2.2.1 w65.2.2.2.2.1 w65.2.2.2.2.2.1 w65.2.2.2.2.2.2 w65.2.2.1 r67_0 cr67_0), (by decide), trivial⟩ ?_
      refine At.step hm ht ⟨[], [], [], [1, 5, 6], [0]⟩ 3 ⟨[(1, .one (.c (.d (.sl (.int .u8) w65.1)))), (5, .one (.c (.ptr 0 0))), (6, .one (.c (.d (.int .i64 (IntKind.wrap .i64 (w65.2.1 + 8))))))], [], [(0, [.d (.int .u64 r67_0.1), .d (.int .u64 r67_0.2.1), .d (.int .u64 r67_0.2.2.1), .d (.int .u64 r67_0.2.2.2)])], 1⟩ [] (by kernel_rfl) trivial ?_
      exact ih w65.1 (IntKind.wrap .i64 (w65.2.1 + 8)) r67_0.1 r67_0.2.1 r67_0.2.2.1 r67_0.2.2.2 w h o hk
    · refine At.step hm ht ⟨[], [false], [], [1, 5, 6], [0]⟩ 11 ⟨[(1, .one (.c (.d (.sl (.int .u8) b)))), (5, .one (.c (.ptr 0 0))), (6, .one (.c (.d (.int .i64 at_))))], [], [(0, [.d (.int .u64 v__0), .d (.int .u64 v__1), .d (.int .u64 v__2), .d (.int .u64 v__3)])], 1⟩ [(decide (((IntKind.wrap .i64 (((b.length : Nat) : Int) - at_)) : Int) ≥ 8)) = false] (by kernel_rfl) ⟨b59_e0, trivial⟩ ?_
      have h := Option.some.inj h
      subst h
      exact hk
def f57_broughamref03_Sum_L13 : Nat → (List Int) → Int → Int → Int → Int → Int → Int → Int → Option (Int × Int × Int × Int × Int)
  | 0, _, _, _, _, _, _, _, _ => none
  | n + 1, b, at_, m, i, v__0, v__1, v__2, v__3 =>
    if (decide ((i : Int) ≥ 0)) = true then
      if (decide (((IntKind.wrap .i64 (at_ + i)) : Int) < ((b.length : Nat) : Int))) = true then
        if (0 : Int) ≤ (IntKind.wrap .i64 (at_ + i)) ∧ (IntKind.wrap .i64 (at_ + i)) < (((b).length : Nat) : Int) then
        f57_broughamref03_Sum_L13 n b at_ (IntKind.wrap .u64 ((IntKind.wrap .u64 (m * 256)) + (IntKind.wrap .u64 (b.getD (IntKind.wrap .i64 (at_ + i)).toNat 0)))) (IntKind.wrap .i64 (i - 1)) v__0 v__1 v__2 v__3
        else none
      else
        f57_broughamref03_Sum_L13 n b at_ (IntKind.wrap .u64 ((IntKind.wrap .u64 (m * 256)) + 0)) (IntKind.wrap .i64 (i - 1)) v__0 v__1 v__2 v__3
    else
      some ((m, v__0, v__1, v__2, v__3))
def f57_broughamref03_Sum_L13_k (e : Int × Int × Int × Int × Int) (o : Out) : Prop := At Go.Proofs.Try.prog Go.Proofs.Try.f57 0 19 ⟨[(5, .one (.c (.ptr 0 0))), (9, .one (.c (.d (.int .u64 e.1))))], [], [(0, [.d (.int .u64 e.2.1), .d (.int .u64 e.2.2.1), .d (.int .u64 e.2.2.2.1), .d (.int .u64 e.2.2.2.2)])], 1⟩ o
theorem f57_broughamref03_Sum_L13_ok (n : Nat) : ∀ (b : List Int) (at_ : Int) (m : Int) (i : Int) (v__0 : Int) (v__1 : Int) (v__2 : Int) (v__3 : Int) (w : Int × Int × Int × Int × Int) (h : f57_broughamref03_Sum_L13 n b at_ m i v__0 v__1 v__2 v__3 = some w) (o : Out) (hk : f57_broughamref03_Sum_L13_k w o), At Go.Proofs.Try.prog Go.Proofs.Try.f57 0 13 ⟨[(1, .one (.c (.d (.sl (.int .u8) b)))), (5, .one (.c (.ptr 0 0))), (6, .one (.c (.d (.int .i64 at_)))), (9, .one (.c (.d (.int .u64 m)))), (10, .one (.c (.d (.int .i64 i))))], [], [(0, [.d (.int .u64 v__0), .d (.int .u64 v__1), .d (.int .u64 v__2), .d (.int .u64 v__3)])], 1⟩ o := by
  induction n with
  | zero => intro b at_ m i v__0 v__1 v__2 v__3 w h; rw [f57_broughamref03_Sum_L13] at h; cases h
  | succ n ih =>
    intro b at_ m i v__0 v__1 v__2 v__3 w h o hk
    rw [f57_broughamref03_Sum_L13] at h
    rcases iteS h with ⟨b92_e0, h⟩ | ⟨b92_e0, h⟩
    · refine At.step hm ht ⟨[], [true], [], [1, 5, 6, 9, 10], [0]⟩ 15 ⟨[(1, .one (.c (.d (.sl (.int .u8) b)))), (5, .one (.c (.ptr 0 0))), (6, .one (.c (.d (.int .i64 at_)))), (9, .one (.c (.d (.int .u64 m)))), (10, .one (.c (.d (.int .i64 i))))], [], [(0, [.d (.int .u64 v__0), .d (.int .u64 v__1), .d (.int .u64 v__2), .d (.int .u64 v__3)])], 1⟩ [(decide ((i : Int) ≥ 0)) = true] (by kernel_rfl) ⟨b92_e0, trivial⟩ ?_
      refine At.step hm ht ⟨[], [], [], [1, 5, 6, 9, 10, 11], [0]⟩ 16 ⟨[(1, .one (.c (.d (.sl (.int .u8) b)))), (5, .one (.c (.ptr 0 0))), (6, .one (.c (.d (.int .i64 at_)))), (9, .one (.c (.d (.int .u64 m)))), (10, .one (.c (.d (.int .i64 i)))), (11, .one (.c (.d (.int .u64 0))))], [], [(0, [.d (.int .u64 v__0), .d (.int .u64 v__1), .d (.int .u64 v__2), .d (.int .u64 v__3)])], 1⟩ [] (by kernel_rfl) trivial ?_
      rcases iteS h with ⟨b94_e0, h⟩ | ⟨b94_e0, h⟩
      · refine At.step hm ht ⟨[], [true], [], [1, 5, 6, 9, 10], [0]⟩ 17 ⟨[(1, .one (.c (.d (.sl (.int .u8) b)))), (5, .one (.c (.ptr 0 0))), (6, .one (.c (.d (.int .i64 at_)))), (9, .one (.c (.d (.int .u64 m)))), (10, .one (.c (.d (.int .i64 i))))], [], [(0, [.d (.int .u64 v__0), .d (.int .u64 v__1), .d (.int .u64 v__2), .d (.int .u64 v__3)])], 1⟩ [(decide (((IntKind.wrap .i64 (at_ + i)) : Int) < ((b.length : Nat) : Int))) = true] (by kernel_rfl) ⟨b94_e0, trivial⟩ ?_
        obtain ⟨g95_0, h⟩ := ifS h
        refine At.step hm ht ⟨[], [], [], [1, 5, 6, 9, 10, 11], [0]⟩ 18 ⟨[(1, .one (.c (.d (.sl (.int .u8) b)))), (5, .one (.c (.ptr 0 0))), (6, .one (.c (.d (.int .i64 at_)))), (9, .one (.c (.d (.int .u64 m)))), (10, .one (.c (.d (.int .i64 i)))), (11, .one (.c (.d (.int .u64 (IntKind.wrap .u64 (b.getD (IntKind.wrap .i64 (at_ + i)).toNat 0))))))], [], [(0, [.d (.int .u64 v__0), .d (.int .u64 v__1), .d (.int .u64 v__2), .d (.int .u64 v__3)])], 1⟩ [(0 : Int) ≤ (IntKind.wrap .i64 (at_ + i)) ∧ (IntKind.wrap .i64 (at_ + i)) < (((b).length : Nat) : Int)] (by kernel_rfl) ⟨g95_0, trivial⟩ ?_
        refine At.step hm ht ⟨[], [], [], [1, 5, 6, 9, 10], [0]⟩ 14 ⟨[(1, .one (.c (.d (.sl (.int .u8) b)))), (5, .one (.c (.ptr 0 0))), (6, .one (.c (.d (.int .i64 at_)))), (9, .one (.c (.d (.int .u64 (IntKind.wrap .u64 ((IntKind.wrap .u64 (m * 256)) + (IntKind.wrap .u64 (b.getD (IntKind.wrap .i64 (at_ + i)).toNat 0)))))))), (10, .one (.c (.d (.int .i64 i))))], [], [(0, [.d (.int .u64 v__0), .d (.int .u64 v__1), .d (.int .u64 v__2), .d (.int .u64 v__3)])], 1⟩ [] (by kernel_rfl) trivial ?_
        refine At.step hm ht ⟨[], [], [], [1, 5, 6, 9, 10], [0]⟩ 13 ⟨[(1, .one (.c (.d (.sl (.int .u8) b)))), (5, .one (.c (.ptr 0 0))), (6, .one (.c (.d (.int .i64 at_)))), (9, .one (.c (.d (.int .u64 (IntKind.wrap .u64 ((IntKind.wrap .u64 (m * 256)) + (IntKind.wrap .u64 (b.getD (IntKind.wrap .i64 (at_ + i)).toNat 0)))))))), (10, .one (.c (.d (.int .i64 (IntKind.wrap .i64 (i - 1))))))], [], [(0, [.d (.int .u64 v__0), .d (.int .u64 v__1), .d (.int .u64 v__2), .d (.int .u64 v__3)])], 1⟩ [] (by kernel_rfl) trivial ?_
        exact ih b at_ (IntKind.wrap .u64 ((IntKind.wrap .u64 (m * 256)) + (IntKind.wrap .u64 (b.getD (IntKind.wrap .i64 (at_ + i)).toNat 0)))) (IntKind.wrap .i64 (i - 1)) v__0 v__1 v__2 v__3 w h o hk
      · refine At.step hm ht ⟨[], [false], [], [1, 5, 6, 9, 10, 11], [0]⟩ 18 ⟨[(1, .one (.c (.d (.sl (.int .u8) b)))), (5, .one (.c (.ptr 0 0))), (6, .one (.c (.d (.int .i64 at_)))), (9, .one (.c (.d (.int .u64 m)))), (10, .one (.c (.d (.int .i64 i)))), (11, .one (.c (.d (.int .u64 0))))], [], [(0, [.d (.int .u64 v__0), .d (.int .u64 v__1), .d (.int .u64 v__2), .d (.int .u64 v__3)])], 1⟩ [(decide (((IntKind.wrap .i64 (at_ + i)) : Int) < ((b.length : Nat) : Int))) = false] (by kernel_rfl) ⟨b94_e0, trivial⟩ ?_
        refine At.step hm ht ⟨[], [], [], [1, 5, 6, 9, 10], [0]⟩ 14 ⟨[(1, .one (.c (.d (.sl (.int .u8) b)))), (5, .one (.c (.ptr 0 0))), (6, .one (.c (.d (.int .i64 at_)))), (9, .one (.c (.d (.int .u64 (IntKind.wrap .u64 ((IntKind.wrap .u64 (m * 256)) + 0)))))), (10, .one (.c (.d (.int .i64 i))))], [], [(0, [.d (.int .u64 v__0), .d (.int .u64 v__1), .d (.int .u64 v__2), .d (.int .u64 v__3)])], 1⟩ [] (by kernel_rfl) trivial ?_
        refine At.step hm ht ⟨[], [], [], [1, 5, 6, 9, 10], [0]⟩ 13 ⟨[(1, .one (.c (.d (.sl (.int .u8) b)))), (5, .one (.c (.ptr 0 0))), (6, .one (.c (.d (.int .i64 at_)))), (9, .one (.c (.d (.int .u64 (IntKind.wrap .u64 ((IntKind.wrap .u64 (m * 256)) + 0)))))), (10, .one (.c (.d (.int .i64 (IntKind.wrap .i64 (i - 1))))))], [], [(0, [.d (.int .u64 v__0), .d (.int .u64 v__1), .d (.int .u64 v__2), .d (.int .u64 v__3)])], 1⟩ [] (by kernel_rfl) trivial ?_
        exact ih b at_ (IntKind.wrap .u64 ((IntKind.wrap .u64 (m * 256)) + 0)) (IntKind.wrap .i64 (i - 1)) v__0 v__1 v__2 v__3 w h o hk
    · refine At.step hm ht ⟨[], [false], [], [5, 9], [0]⟩ 19 ⟨[(5, .one (.c (.ptr 0 0))), (9, .one (.c (.d (.int .u64 m))))], [], [(0, [.d (.int .u64 v__0), .d (.int .u64 v__1), .d (.int .u64 v__2), .d (.int .u64 v__3)])], 1⟩ [(decide ((i : Int) ≥ 0)) = false] (by kernel_rfl) ⟨b92_e0, trivial⟩ ?_
      have h := Option.some.inj h
      subst h
      exact hk
def f57_broughamref03_Sum (n : Nat) (k_0 : Int) (k_1 : Int) (b : List Int) : Option (Int) :=
  (f57_broughamref03_Sum_L3 n b 0 (bits .xor .u64 k_0 8317987319222330741) (bits .xor .u64 k_1 7237128888997146477) (bits .xor .u64 k_0 7816392313619706465) (bits .xor .u64 k_1 8387220255154660723)).bind fun w88 =>
  (f57_broughamref03_Sum_L13 n w88.1 w88.2.1 (IntKind.wrap .u64 (Int.tmod ((w88.1.length : Nat) : Int) 256)) 6 w88.2.2.1 w88.2.2.2.1 w88.2.2.2.2.1 w88.2.2.2.2.2).bind fun w100 =>
  (f77_broughamref03_take w100.2.1 w100.2.2.1 w100.2.2.2.1 w100.2.2.2.2 w100.1).bind fun r102_0 =>
  (f78_broughamref03_round r102_0.1 r102_0.2.1 (bits .xor .u64 r102_0.2.2.1 255) r102_0.2.2.2).bind fun r104_0 =>
  (f78_broughamref03_round r104_0.1 r104_0.2.1 r104_0.2.2.1 r104_0.2.2.2).bind fun r104_1 =>
  (f78_broughamref03_round r104_1.1 r104_1.2.1 r104_1.2.2.1 r104_1.2.2.2).bind fun r104_2 =>
  (f78_broughamref03_round r104_2.1 r104_2.2.1 r104_2.2.2.1 r104_2.2.2.2).bind fun r104_3 =>
  some (bits .xor .u64 (bits .xor .u64 (bits .xor .u64 r104_3.1 r104_3.2.1) r104_3.2.2.1) r104_3.2.2.2)
theorem f57_broughamref03_Sum_ok (n : Nat) (k_0 : Int) (k_1 : Int) (b : List Int) (r : Int) (h : f57_broughamref03_Sum n k_0 k_1 b = some r) : FnOK Go.Proofs.Try.prog 57 (f57_broughamref03_Sum_in k_0 k_1 b) (f57_broughamref03_Sum_out r) := by
  unfold f57_broughamref03_Sum at h
  refine At.fn (r := 0) Go.Proofs.Try.func57 rfl (by kernel_rfl) rfl rfl (by kernel_rfl) ?_
  show At Go.Proofs.Try.prog Go.Proofs.Try.f57 0 0 ⟨[(0, .one (.agg [.d (.int .u64 k_0), .d (.int .u64 k_1)])), (1, .one (.c (.d (.sl (.int .u8) b))))], [], [], 0⟩ _
  refine At.step hm ht ⟨[], [], [], [1, 2], [0]⟩ 1 ⟨[(1, .one (.c (.d (.sl (.int .u8) b)))), (2, .one (.c (.ptr 0 0)))], [], [(0, [.d (.int .u64 k_0), .d (.int .u64 k_1)])], 1⟩ [] (by kernel_rfl) trivial ?_
  refine At.step hm ht ⟨[], [], [], [1, 5], [14]⟩ 2 ⟨[(1, .one (.c (.d (.sl (.int .u8) b)))), (5, .one (.c (.ptr 0 0)))], [], [(0, [.d (.int .u64 (bits .xor .u64 k_0 8317987319222330741)), .d (.int .u64 (bits .xor .u64 k_1 7237128888997146477)), .d (.int .u64 (bits .xor .u64 k_0 7816392313619706465)), .d (.int .u64 (bits .xor .u64 k_1 8387220255154660723))])], 1⟩ [0 + 4 ≤ 4] (by kernel_rfl) ⟨(by decide), trivial⟩ ?_
  refine At.step hm ht ⟨[], [], [], [1, 5, 6], [0]⟩ 3 ⟨[(1, .one (.c (.d (.sl (.int .u8) b)))), (5, .one (.c (.ptr 0 0))), (6, .one (.c (.d (.int .i64 0))))], [], [(0, [.d (.int .u64 (bits .xor .u64 k_0 8317987319222330741)), .d (.int .u64 (bits .xor .u64 k_1 7237128888997146477)), .d (.int .u64 (bits .xor .u64 k_0 7816392313619706465)), .d (.int .u64 (bits .xor .u64 k_1 8387220255154660723))])], 1⟩ [] (by kernel_rfl) trivial ?_
  obtain ⟨w88, cw88, h⟩ := bindS h
  refine f57_broughamref03_Sum_L3_ok n b 0 (bits .xor .u64 k_0 8317987319222330741) (bits .xor .u64 k_1 7237128888997146477) (bits .xor .u64 k_0 7816392313619706465) (bits .xor .u64 k_1 8387220255154660723) w88 cw88 _ ?_
  show At Go.Proofs.Try.prog Go.Proofs.Try.f57 0 11 ⟨[(1, .one (.c (.d (.sl (.int .u8) w88.1)))), (5, .one (.c (.ptr 0 0))), (6, .one (.c (.d (.int .i64 w88.2.1))))], [], [(0, [.d (.int .u64 w88.2.2.1), .d (.int .u64 w88.2.2.2.1), .d (.int .u64 w88.2.2.2.2.1), .d (.int .u64 w88.2.2.2.2.2)])], 1⟩ _
  refine At.step hm ht ⟨[], [], [], [1, 5, 6, 9], [0]⟩ 12 ⟨[(1, .one (.c (.d (.sl (.int .u8) w88.1)))), (5, .one (.c (.ptr 0 0))), (6, .one (.c (.d (.int .i64 w88.2.1)))), (9, .one (.c (.d (.int .u64 (IntKind.wrap .u64 (Int.tmod ((w88.1.length : Nat) : Int) 256))))))], [], [(0, [.d (.int .u64 w88.2.2.1), .d (.int .u64 w88.2.2.2.1), .d (.int .u64 w88.2.2.2.2.1), .d (.int .u64 w88.2.2.2.2.2)])], 1⟩ [(256 : Int) ≠ 0] (by kernel_rfl) ⟨(by decide), trivial⟩ ?_
  refine At.step hm ht ⟨[], [], [], [1, 5, 6, 9, 10], [0]⟩ 13 ⟨[(1, .one (.c (.d (.sl (.int .u8) w88.1)))), (5, .one (.c (.ptr 0 0))), (6, .one (.c (.d (.int .i64 w88.2.1)))), (9, .one (.c (.d (.int .u64 (IntKind.wrap .u64 (Int.tmod ((w88.1.length : Nat) : Int) 256)))))), (10, .one (.c (.d (.int .i64 6))))], [], [(0, [.d (.int .u64 w88.2.2.1), .d (.int .u64 w88.2.2.2.1), .d (.int .u64 w88.2.2.2.2.1), .d (.int .u64 w88.2.2.2.2.2)])], 1⟩ [] (by kernel_rfl) trivial ?_
  obtain ⟨w100, cw100, h⟩ := bindS h
  refine f57_broughamref03_Sum_L13_ok n w88.1 w88.2.1 (IntKind.wrap .u64 (Int.tmod ((w88.1.length : Nat) : Int) 256)) 6 w88.2.2.1 w88.2.2.2.1 w88.2.2.2.2.1 w88.2.2.2.2.2 w100 cw100 _ ?_
  show At Go.Proofs.Try.prog Go.Proofs.Try.f57 0 19 ⟨[(5, .one (.c (.ptr 0 0))), (9, .one (.c (.d (.int .u64 w100.1))))], [], [(0, [.d (.int .u64 w100.2.1), .d (.int .u64 w100.2.2.1), .d (.int .u64 w100.2.2.2.1), .d (.int .u64 w100.2.2.2.2)])], 1⟩ _
  obtain ⟨r102_0, cr102_0, h⟩ := bindS h
  refine At.step hm ht ⟨[(2, .call [] [] (f77_broughamref03_take_out r102_0))], [], [], [5], [0]⟩ 20 ⟨[(5, .one (.c (.ptr 0 0)))], [], [(0, [.d (.int .u64 r102_0.1), .d (.int .u64 r102_0.2.1), .d (.int .u64 r102_0.2.2.1), .d (.int .u64 r102_0.2.2.2)])], 1⟩ [FnOK Go.Proofs.Try.prog 77 (f77_broughamref03_take_in w100.2.1 w100.2.2.1 w100.2.2.2.1 w100.2.2.2.2 w100.1) (f77_broughamref03_take_out r102_0), 0 + 4 ≤ 4] (by kernel_rfl) ⟨(f77_broughamref03_take_ok w100.2.1 w100.2.2.1 w100.2.2.2.1 w100.2.2.2.2 w100.1 r102_0 cr102_0), (by decide), trivial⟩ ?_
  refine At.step hm ht ⟨[], [], [], [5], [0]⟩ 21 ⟨[(5, .one (.c (.ptr 0 0)))], [], [(0, [.d (.int .u64 r102_0.1), .d (.int .u64 r102_0.2.1), .d (.int .u64 (bits .xor .u64 r102_0.2.2.1 255)), .d (.int .u64 r102_0.2.2.2)])], 1⟩ [2 + 1 ≤ 4] (by kernel_rfl) ⟨(by decide), trivial⟩ ?_
  obtain ⟨r104_0, cr104_0, h⟩ := bindS h
  obtain ⟨r104_1, cr104_1, h⟩ := bindS h
  obtain ⟨r104_2, cr104_2, h⟩ := bindS h
  obtain ⟨r104_3, cr104_3, h⟩ := bindS h
  refine At.step hm ht ⟨[(1, .call [] [] (f78_broughamref03_round_out r104_0)), (2, .call [] [] (f78_broughamref03_round_out r104_1)), (3, .call [] [] (f78_broughamref03_round_out r104_2)), (4, .call [] [] (f78_broughamref03_round_out r104_3))], [], [], [5], [0]⟩ 22 ⟨[(5, .one (.c (.ptr 0 0)))], [], [(0, [.d (.int .u64 r104_3.1), .d (.int .u64 r104_3.2.1), .d (.int .u64 r104_3.2.2.1), .d (.int .u64 r104_3.2.2.2)])], 1⟩ [FnOK Go.Proofs.Try.prog 78 (f78_broughamref03_round_in r102_0.1 r102_0.2.1 (bits .xor .u64 r102_0.2.2.1 255) r102_0.2.2.2) (f78_broughamref03_round_out r104_0), FnOK Go.Proofs.Try.prog 78 (f78_broughamref03_round_in r104_0.1 r104_0.2.1 r104_0.2.2.1 r104_0.2.2.2) (f78_broughamref03_round_out r104_1), FnOK Go.Proofs.Try.prog 78 (f78_broughamref03_round_in r104_1.1 r104_1.2.1 r104_1.2.2.1 r104_1.2.2.2) (f78_broughamref03_round_out r104_2), FnOK Go.Proofs.Try.prog 78 (f78_broughamref03_round_in r104_2.1 r104_2.2.1 r104_2.2.2.1 r104_2.2.2.2) (f78_broughamref03_round_out r104_3), 0 + 4 ≤ 4] (by kernel_rfl) ⟨(f78_broughamref03_round_ok r102_0.1 r102_0.2.1 (bits .xor .u64 r102_0.2.2.1 255) r102_0.2.2.2 r104_0 cr104_0), (f78_broughamref03_round_ok r104_0.1 r104_0.2.1 r104_0.2.2.1 r104_0.2.2.2 r104_1 cr104_1), (f78_broughamref03_round_ok r104_1.1 r104_1.2.1 r104_1.2.2.1 r104_1.2.2.2 r104_2 cr104_2), (f78_broughamref03_round_ok r104_2.1 r104_2.2.1 r104_2.2.2.1 r104_2.2.2.2 r104_3 cr104_3), (by decide), trivial⟩ ?_
  have h := Option.some.inj h
  subst h
  exact At.fin hm ht ⟨[], [], [], [4], []⟩ [] (by kernel_rfl) trivial
/-! brougham/sip.Pair -/
def f58_sip_Pair_in (k_0 : Int) (k_1 : Int) (parts : List (List Int)) : Inn := ⟨[.agg [.d (.int .u64 k_0), .d (.int .u64 k_1)], .c (.d (.sl (.slice (.int .u8)) parts))], [], [], 0⟩
def f58_sip_Pair_out (r : Int × Int) : Out := ⟨.one (.agg [.d (.int .u64 r.1), .d (.int .u64 r.2)]), [], [(0, [.d (.int .u64 r.1), .d (.int .u64 r.2)])], 1⟩
def f58_sip_Pair (n : Nat) (k_0 : Int) (k_1 : Int) (parts : List (List Int)) : Option (Int × Int) :=
  if [[1]].length + parts.length ≤ maxLen ∧ ([[1]].length + parts.length) * 24 ≤ 140737488355328 then
  if [[2]].length + parts.length ≤ maxLen ∧ ([[2]].length + parts.length) * 24 ≤ 140737488355328 then
  (f56_sip_Sum n k_0 k_1 ([[1]] ++ parts)).bind fun r109_0 =>
  (f56_sip_Sum n k_0 k_1 ([[2]] ++ parts)).bind fun r109_1 =>
  some (r109_0, r109_1)
  else none
  else none
theorem f58_sip_Pair_ok (n : Nat) (k_0 : Int) (k_1 : Int) (parts : List (List Int)) (r : Int × Int) (h : f58_sip_Pair n k_0 k_1 parts = some r) : FnOK Go.Proofs.Try.prog 58 (f58_sip_Pair_in k_0 k_1 parts) (f58_sip_Pair_out r) := by
  unfold f58_sip_Pair at h
  refine At.fn (r := 0) Go.Proofs.Try.func58 rfl (by kernel_rfl) rfl rfl (by kernel_rfl) ?_
  show At Go.Proofs.Try.prog Go.Proofs.Try.f58 0 0 ⟨[(0, .one (.agg [.d (.int .u64 k_0), .d (.int .u64 k_1)])), (1, .one (.c (.d (.sl (.slice (.int .u8)) parts))))], [], [], 0⟩ _
  refine At.step hm ht ⟨[], [], [], [1, 2, 4], [0, 1]⟩ 1 ⟨[(1, .one (.c (.d (.sl (.slice (.int .u8)) parts)))), (2, .one (.c (.ptr 0 0))), (4, .one (.c (.ptr 1 0)))], [], [(0, [.d (.int .u64 k_0), .d (.int .u64 k_1)]), (1, [.d (.int .u64 0), .d (.int .u64 0)])], 2⟩ [] (by kernel_rfl) trivial ?_
  obtain ⟨g107_0, h⟩ := ifS h
  refine At.step hm ht ⟨[], [], [], [1, 2, 4, 5], [0, 1, 5]⟩ 2 ⟨[(1, .one (.c (.d (.sl (.slice (.int .u8)) parts)))), (2, .one (.c (.ptr 0 0))), (4, .one (.c (.ptr 1 0))), (5, .one (.c (.own 2 (.slice (.int .u8)) ([[1]] ++ parts))))], [(2, some ⟨34, 0⟩)], [(0, [.d (.int .u64 k_0), .d (.int .u64 k_1)]), (1, [.d (.int .u64 0), .d (.int .u64 0)])], 3⟩ [[[1]].length + parts.length ≤ maxLen ∧ ([[1]].length + parts.length) * 24 ≤ 140737488355328] (by kernel_rfl) ⟨g107_0, trivial⟩ ?_
  obtain ⟨g108_0, h⟩ := ifS h
  refine At.step hm ht ⟨[], [], [], [2, 4, 5, 6], [0, 1, 2, 6]⟩ 3 ⟨[(2, .one (.c (.ptr 0 0))), (4, .one (.c (.ptr 1 0))), (5, .one (.c (.own 2 (.slice (.int .u8)) ([[1]] ++ parts)))), (6, .one (.c (.own 3 (.slice (.int .u8)) ([[2]] ++ parts))))], [(2, some ⟨34, 0⟩), (3, some ⟨34, 0⟩)], [(0, [.d (.int .u64 k_0), .d (.int .u64 k_1)]), (1, [.d (.int .u64 0), .d (.int .u64 0)])], 4⟩ [[[2]].length + parts.length ≤ maxLen ∧ ([[2]].length + parts.length) * 24 ≤ 140737488355328] (by kernel_rfl) ⟨g108_0, trivial⟩ ?_
  obtain ⟨r109_0, cr109_0, h⟩ := bindS h
  obtain ⟨r109_1, cr109_1, h⟩ := bindS h
  have h := Option.some.inj h
  subst h
  exact At.fin hm ht ⟨[(2, .call [] [] (f56_sip_Sum_out r109_0)), (5, .call [] [] (f56_sip_Sum_out r109_1))], [], [], [4], [1]⟩ [FnOK Go.Proofs.Try.prog 56 (f56_sip_Sum_in k_0 k_1 ([[1]] ++ parts)) (f56_sip_Sum_out r109_0), FnOK Go.Proofs.Try.prog 56 (f56_sip_Sum_in k_0 k_1 ([[2]] ++ parts)) (f56_sip_Sum_out r109_1), 0 + 2 ≤ 2] (by kernel_rfl) ⟨(f56_sip_Sum_ok n k_0 k_1 ([[1]] ++ parts) r109_0 cr109_0), (f56_sip_Sum_ok n k_0 k_1 ([[2]] ++ parts) r109_1 cr109_1), (by decide), trivial⟩
/-! brougham/broughamref03.Pair -/
def f59_broughamref03_Pair_in (k_0 : Int) (k_1 : Int) (b : List Int) : Inn := ⟨[.agg [.d (.int .u64 k_0), .d (.int .u64 k_1)], .c (.d (.sl (.int .u8) b))], [], [], 0⟩
def f59_broughamref03_Pair_out (r : Int × Int) : Out := ⟨.one (.agg [.d (.int .u64 r.1), .d (.int .u64 r.2)]), [], [(0, [.d (.int .u64 r.1), .d (.int .u64 r.2)])], 1⟩
def f59_broughamref03_Pair (n : Nat) (k_0 : Int) (k_1 : Int) (b : List Int) : Option (Int × Int) :=
  if [1].length + b.length ≤ maxLen ∧ ([1].length + b.length) * 1 ≤ 140737488355328 then
  (f57_broughamref03_Sum n k_0 k_1 ([1] ++ b)).bind fun r111_1 =>
  if [2].length + b.length ≤ maxLen ∧ ([2].length + b.length) * 1 ≤ 140737488355328 then
  (f57_broughamref03_Sum n k_0 k_1 ([2] ++ b)).bind fun r111_3 =>
  some (r111_1, r111_3)
  else none
  else none
theorem f59_broughamref03_Pair_ok (n : Nat) (k_0 : Int) (k_1 : Int) (b : List Int) (r : Int × Int) (h : f59_broughamref03_Pair n k_0 k_1 b = some r) : FnOK Go.Proofs.Try.prog 59 (f59_broughamref03_Pair_in k_0 k_1 b) (f59_broughamref03_Pair_out r) := by
  unfold f59_broughamref03_Pair at h
  refine At.fn (r := 0) Go.Proofs.Try.func59 rfl (by kernel_rfl) rfl rfl (by kernel_rfl) ?_
  show At Go.Proofs.Try.prog Go.Proofs.Try.f59 0 0 ⟨[(0, .one (.agg [.d (.int .u64 k_0), .d (.int .u64 k_1)])), (1, .one (.c (.d (.sl (.int .u8) b))))], [], [], 0⟩ _
  refine At.step hm ht ⟨[], [], [], [1, 2, 4], [0, 1]⟩ 1 ⟨[(1, .one (.c (.d (.sl (.int .u8) b)))), (2, .one (.c (.ptr 0 0))), (4, .one (.c (.ptr 1 0)))], [], [(0, [.d (.int .u64 k_0), .d (.int .u64 k_1)]), (1, [.d (.int .u64 0), .d (.int .u64 0)])], 2⟩ [] (by kernel_rfl) trivial ?_
  obtain ⟨g111_0, h⟩ := ifS h
  obtain ⟨r111_1, cr111_1, h⟩ := bindS h
  obtain ⟨g111_2, h⟩ := ifS h
  obtain ⟨r111_3, cr111_3, h⟩ := bindS h
  have h := Option.some.inj h
  subst h
  exact At.fin hm ht ⟨[(4, .call [] [] (f57_broughamref03_Sum_out r111_1)), (9, .call [] [] (f57_broughamref03_Sum_out r111_3))], [], [], [4], [1]⟩ [[1].length + b.length ≤ maxLen ∧ ([1].length + b.length) * 1 ≤ 140737488355328, FnOK Go.Proofs.Try.prog 57 (f57_broughamref03_Sum_in k_0 k_1 ([1] ++ b)) (f57_broughamref03_Sum_out r111_1), [2].length + b.length ≤ maxLen ∧ ([2].length + b.length) * 1 ≤ 140737488355328, FnOK Go.Proofs.Try.prog 57 (f57_broughamref03_Sum_in k_0 k_1 ([2] ++ b)) (f57_broughamref03_Sum_out r111_3), 0 + 2 ≤ 2] (by kernel_rfl) ⟨g111_0, (f57_broughamref03_Sum_ok n k_0 k_1 ([1] ++ b) r111_1 cr111_1), g111_2, (f57_broughamref03_Sum_ok n k_0 k_1 ([2] ++ b) r111_3 cr111_3), (by decide), trivial⟩
/-! brougham/broughamlaw03.alive -/
def f60_broughamlaw03_alive_in : Inn := ⟨[], [], [], 0⟩
def f60_broughamlaw03_alive_out (r : Bool) : Out := ⟨.one (.c (.d (.bool r))), [], [], 0⟩
def f60_broughamlaw03_alive (n : Nat) : Option (Bool) :=
  (f56_sip_Sum n 506097522914230528 1084818905618843912 []).bind fun r114_0 =>
  if ((r114_0 : Int) == 8246050544436514353) = true then
    (f56_sip_Sum n 506097522914230528 1084818905618843912 [[0, 1, 2, 3, 4, 5, 6, 7, 8, 9, 10, 11, 12, 13, 14]]).bind fun r114_1 =>
    some ((r114_1 : Int) == 11613035633349379557)
  else
    some false
theorem f60_broughamlaw03_alive_ok (n : Nat) (r : Bool) (h : f60_broughamlaw03_alive n = some r) : FnOK Go.Proofs.Try.prog 60 (f60_broughamlaw03_alive_in) (f60_broughamlaw03_alive_out r) := by
  unfold f60_broughamlaw03_alive at h
  refine At.fn (r := 0) Go.Proofs.Try.func60 rfl (by kernel_rfl) rfl rfl (by kernel_rfl) ?_
  show At Go.Proofs.Try.prog Go.Proofs.Try.f60 0 0 ⟨[], [], [], 0⟩ _
  refine At.step hm ht ⟨[], [], [], [], []⟩ 1 ⟨[], [], [], 0⟩ [] (by kernel_rfl) trivial ?_
  refine At.step hm ht ⟨[], [], [], [1], [1]⟩ 2 ⟨[(1, .one (.c (.ptr 0 0)))], [], [(0, [.d (.int .u64 506097522914230528), .d (.int .u64 1084818905618843912)])], 1⟩ [0 + 2 ≤ 2] (by kernel_rfl) ⟨(by decide), trivial⟩ ?_
  obtain ⟨r114_0, cr114_0, h⟩ := bindS h
  rcases iteS h with ⟨b114_3, h⟩ | ⟨b114_3, h⟩
  · obtain ⟨r114_1, cr114_1, h⟩ := bindS h
    have h := Option.some.inj h
    subst h
    exact At.fin hm ht ⟨[(1, .call [] [(1, 0, (.slice (.int .u8)))] (f56_sip_Sum_out r114_0)), (3, .b true), (7, .call [] [] (f56_sip_Sum_out r114_1))], [], [], [0], []⟩ [FnOK Go.Proofs.Try.prog 56 (f56_sip_Sum_in 506097522914230528 1084818905618843912 []) (f56_sip_Sum_out r114_0), ((r114_0 : Int) == 8246050544436514353) = true, FnOK Go.Proofs.Try.prog 56 (f56_sip_Sum_in 506097522914230528 1084818905618843912 [[0, 1, 2, 3, 4, 5, 6, 7, 8, 9, 10, 11, 12, 13, 14]]) (f56_sip_Sum_out r114_1)] (by kernel_rfl) ⟨(f56_sip_Sum_ok n 506097522914230528 1084818905618843912 [] r114_0 cr114_0), b114_3, (f56_sip_Sum_ok n 506097522914230528 1084818905618843912 [[0, 1, 2, 3, 4, 5, 6, 7, 8, 9, 10, 11, 12, 13, 14]] r114_1 cr114_1), trivial⟩
  · have h := Option.some.inj h
    subst h
    exact At.fin hm ht ⟨[(1, .call [] [(1, 0, (.slice (.int .u8)))] (f56_sip_Sum_out r114_0)), (3, .b false)], [], [], [0], []⟩ [FnOK Go.Proofs.Try.prog 56 (f56_sip_Sum_in 506097522914230528 1084818905618843912 []) (f56_sip_Sum_out r114_0), ((r114_0 : Int) == 8246050544436514353) = false] (by kernel_rfl) ⟨(f56_sip_Sum_ok n 506097522914230528 1084818905618843912 [] r114_0 cr114_0), b114_3, trivial⟩
/-! brougham/broughamlaw03.SipSums -/
def f10_broughamlaw03_SipSums_in (k_0 : Int) (k_1 : Int) (b : List Int) : Inn := ⟨[.agg [.d (.int .u64 k_0), .d (.int .u64 k_1)], .c (.d (.sl (.int .u8) b))], [], [], 0⟩
def f10_broughamlaw03_SipSums_out (r : Bool) : Out := ⟨.one (.c (.d (.bool r))), [], [], 0⟩
def f10_broughamlaw03_SipSums (n : Nat) (k_0 : Int) (k_1 : Int) (b : List Int) : Option (Bool) :=
  if (decide ((((b.length : Nat) : Int) : Int) > 4096)) = true then
    some true
  else
    (f56_sip_Sum n k_0 k_1 [b]).bind fun r4_0 =>
    (f57_broughamref03_Sum n k_0 k_1 b).bind fun r4_1 =>
    if ((r4_0 : Int) == r4_1) = true then
      (f58_sip_Pair n k_0 k_1 [b]).bind fun r4_2 =>
      (f59_broughamref03_Pair n k_0 k_1 b).bind fun r4_3 =>
      if (((r4_2.1 : Int) == r4_3.1) && ((r4_2.2 : Int) == r4_3.2)) = true then
        (f60_broughamlaw03_alive n).bind fun r4_4 =>
        some r4_4
      else
        some false
    else
      some false
theorem f10_broughamlaw03_SipSums_ok (n : Nat) (k_0 : Int) (k_1 : Int) (b : List Int) (r : Bool) (h : f10_broughamlaw03_SipSums n k_0 k_1 b = some r) : FnOK Go.Proofs.Try.prog 10 (f10_broughamlaw03_SipSums_in k_0 k_1 b) (f10_broughamlaw03_SipSums_out r) := by
  unfold f10_broughamlaw03_SipSums at h
  refine At.fn (r := 0) Go.Proofs.Try.func10 rfl (by kernel_rfl) rfl rfl (by kernel_rfl) ?_
  show At Go.Proofs.Try.prog Go.Proofs.Try.f10 0 0 ⟨[(0, .one (.agg [.d (.int .u64 k_0), .d (.int .u64 k_1)])), (1, .one (.c (.d (.sl (.int .u8) b))))], [], [], 0⟩ _
  refine At.step hm ht ⟨[], [], [], [1, 2], [0]⟩ 1 ⟨[(1, .one (.c (.d (.sl (.int .u8) b)))), (2, .one (.c (.ptr 0 0)))], [], [(0, [.d (.int .u64 k_0), .d (.int .u64 k_1)])], 1⟩ [] (by kernel_rfl) trivial ?_
  rcases iteS h with ⟨b2_e0, h⟩ | ⟨b2_e0, h⟩
  · refine At.step hm ht ⟨[], [true], [], [], []⟩ 2 ⟨[], [], [], 0⟩ [(decide ((((b.length : Nat) : Int) : Int) > 4096)) = true] (by kernel_rfl) ⟨b2_e0, trivial⟩ ?_
    have h := Option.some.inj h
    subst h
    exact At.fin hm ht ⟨[], [], [], [4], []⟩ [] (by kernel_rfl) trivial
  · refine At.step hm ht ⟨[], [false], [], [1, 2], [0]⟩ 3 ⟨[(1, .one (.c (.d (.sl (.int .u8) b)))), (2, .one (.c (.ptr 0 0)))], [], [(0, [.d (.int .u64 k_0), .d (.int .u64 k_1)])], 1⟩ [(decide ((((b.length : Nat) : Int) : Int) > 4096)) = false] (by kernel_rfl) ⟨b2_e0, trivial⟩ ?_
    obtain ⟨r4_0, cr4_0, h⟩ := bindS h
    obtain ⟨r4_1, cr4_1, h⟩ := bindS h
    rcases iteS h with ⟨b4_8, h⟩ | ⟨b4_8, h⟩
    · obtain ⟨r4_2, cr4_2, h⟩ := bindS h
      obtain ⟨r4_3, cr4_3, h⟩ := bindS h
      rcases iteS h with ⟨b4_18, h⟩ | ⟨b4_18, h⟩
      · obtain ⟨r4_4, cr4_4, h⟩ := bindS h
        have h := Option.some.inj h
        subst h
        exact At.fin hm ht ⟨[(3, .call [] [] (f56_sip_Sum_out r4_0)), (6, .call [] [] (f57_broughamref03_Sum_out r4_1)), (8, .b true), (12, .call [] [] (f58_sip_Pair_out r4_2)), (15, .call [] [] (f59_broughamref03_Pair_out r4_3)), (18, .b true), (19, .call [] [] (f60_broughamlaw03_alive_out r4_4))], [], [], [4], []⟩ [FnOK Go.Proofs.Try.prog 56 (f56_sip_Sum_in k_0 k_1 [b]) (f56_sip_Sum_out r4_0), FnOK Go.Proofs.Try.prog 57 (f57_broughamref03_Sum_in k_0 k_1 b) (f57_broughamref03_Sum_out r4_1), ((r4_0 : Int) == r4_1) = true, FnOK Go.Proofs.Try.prog 58 (f58_sip_Pair_in k_0 k_1 [b]) (f58_sip_Pair_out r4_2), FnOK Go.Proofs.Try.prog 59 (f59_broughamref03_Pair_in k_0 k_1 b) (f59_broughamref03_Pair_out r4_3), (((r4_2.1 : Int) == r4_3.1) && ((r4_2.2 : Int) == r4_3.2)) = true, FnOK Go.Proofs.Try.prog 60 (f60_broughamlaw03_alive_in) (f60_broughamlaw03_alive_out r4_4)] (by kernel_rfl) ⟨(f56_sip_Sum_ok n k_0 k_1 [b] r4_0 cr4_0), (f57_broughamref03_Sum_ok n k_0 k_1 b r4_1 cr4_1), b4_8, (f58_sip_Pair_ok n k_0 k_1 [b] r4_2 cr4_2), (f59_broughamref03_Pair_ok n k_0 k_1 b r4_3 cr4_3), b4_18, (f60_broughamlaw03_alive_ok n r4_4 cr4_4), trivial⟩
      · have h := Option.some.inj h
        subst h
        exact At.fin hm ht ⟨[(3, .call [] [] (f56_sip_Sum_out r4_0)), (6, .call [] [] (f57_broughamref03_Sum_out r4_1)), (8, .b true), (12, .call [] [] (f58_sip_Pair_out r4_2)), (15, .call [] [] (f59_broughamref03_Pair_out r4_3)), (18, .b false)], [], [], [4], []⟩ [FnOK Go.Proofs.Try.prog 56 (f56_sip_Sum_in k_0 k_1 [b]) (f56_sip_Sum_out r4_0), FnOK Go.Proofs.Try.prog 57 (f57_broughamref03_Sum_in k_0 k_1 b) (f57_broughamref03_Sum_out r4_1), ((r4_0 : Int) == r4_1) = true, FnOK Go.Proofs.Try.prog 58 (f58_sip_Pair_in k_0 k_1 [b]) (f58_sip_Pair_out r4_2), FnOK Go.Proofs.Try.prog 59 (f59_broughamref03_Pair_in k_0 k_1 b) (f59_broughamref03_Pair_out r4_3), (((r4_2.1 : Int) == r4_3.1) && ((r4_2.2 : Int) == r4_3.2)) = false] (by kernel_rfl) ⟨(f56_sip_Sum_ok n k_0 k_1 [b] r4_0 cr4_0), (f57_broughamref03_Sum_ok n k_0 k_1 b r4_1 cr4_1), b4_8, (f58_sip_Pair_ok n k_0 k_1 [b] r4_2 cr4_2), (f59_broughamref03_Pair_ok n k_0 k_1 b r4_3 cr4_3), b4_18, trivial⟩
    · have h := Option.some.inj h
      subst h
      exact At.fin hm ht ⟨[(3, .call [] [] (f56_sip_Sum_out r4_0)), (6, .call [] [] (f57_broughamref03_Sum_out r4_1)), (8, .b false)], [], [], [4], []⟩ [FnOK Go.Proofs.Try.prog 56 (f56_sip_Sum_in k_0 k_1 [b]) (f56_sip_Sum_out r4_0), FnOK Go.Proofs.Try.prog 57 (f57_broughamref03_Sum_in k_0 k_1 b) (f57_broughamref03_Sum_out r4_1), ((r4_0 : Int) == r4_1) = false] (by kernel_rfl) ⟨(f56_sip_Sum_ok n k_0 k_1 [b] r4_0 cr4_0), (f57_broughamref03_Sum_ok n k_0 k_1 b r4_1 cr4_1), b4_8, trivial⟩
/-! brougham/broughamlaw03.SipParts -/
def f11_broughamlaw03_SipParts_in (k_0 : Int) (k_1 : Int) (l : List (List Int)) : Inn := ⟨[.agg [.d (.int .u64 k_0), .d (.int .u64 k_1)], .c (.d (.sl (.slice (.int .u8)) l))], [], [], 0⟩
def f11_broughamlaw03_SipParts_out (r : Bool) : Out := ⟨.one (.c (.d (.bool r))), [], [], 0⟩
def f11_broughamlaw03_SipParts_L5 : Nat → (List (List Int)) → (List Int) → Int → Int → Int → Option ((Bool) ⊕ (List (List Int) × List Int × Int × Int))
  | 0, _, _, _, _, _ => none
  | n + 1, l, all, i, k_0, k_1 =>
    if (decide ((i : Int) < ((l.length : Nat) : Int))) = true then
      if (0 : Int) ≤ i ∧ i < (((l).length : Nat) : Int) then
      if (decide (((((l.getD i.toNat []).length : Nat) : Int) : Int) > 300)) = true then
        some (.inl true)
      else
        if (0 : Int) ≤ i ∧ i < (((l).length : Nat) : Int) then
        if all.length + (l.getD i.toNat []).length ≤ maxLen ∧ (all.length + (l.getD i.toNat []).length) * 1 ≤ 140737488355328 then
        f11_broughamlaw03_SipParts_L5 n l (all ++ (l.getD i.toNat [])) (IntKind.wrap .i64 (i + 1)) k_0 k_1
        else none
        else none
      else none
    else
      some (.inr ((l, all, k_0, k_1)))
def f11_broughamlaw03_SipParts_L5_k (w : (Bool) ⊕ (List (List Int) × List Int × Int × Int)) (o : Out) : Prop := match w with
  | .inl e => o = f11_broughamlaw03_SipParts_out e
  | .inr e => At Go.Proofs.Try.prog Go.Proofs.Try.f11 0 10 ⟨[(1, .one (.c (.d (.sl (.slice (.int .u8)) e.1)))), (2, .one (.c (.ptr 0 0))), (5, .one (.c (.own 1 (.int .u8) e.2.1)))], [(1, some ⟨5, 0⟩)], [(0, [.d (.int .u64 e.2.2.1), .d (.int .u64 e.2.2.2)])], 2⟩ o
theorem f11_broughamlaw03_SipParts_L5_ok (n : Nat) : ∀ (l : List (List Int)) (all : List Int) (i : Int) (k_0 : Int) (k_1 : Int) (w : (Bool) ⊕ (List (List Int) × List Int × Int × Int)) (h : f11_broughamlaw03_SipParts_L5 n l all i k_0 k_1 = some w) (o : Out) (hk : f11_broughamlaw03_SipParts_L5_k w o), At Go.Proofs.Try.prog Go.Proofs.Try.f11 0 5 ⟨[(1, .one (.c (.d (.sl (.slice (.int .u8)) l)))), (2, .one (.c (.ptr 0 0))), (5, .one (.c (.own 1 (.int .u8) all))), (6, .one (.c (.d (.int .i64 i))))], [(1, some ⟨5, 0⟩)], [(0, [.d (.int .u64 k_0), .d (.int .u64 k_1)])], 2⟩ o := by
  induction n with
  | zero => intro l all i k_0 k_1 w h; rw [f11_broughamlaw03_SipParts_L5] at h; cases h
  | succ n ih =>
    intro l all i k_0 k_1 w h o hk
    rw [f11_broughamlaw03_SipParts_L5] at h
    rcases iteS h with ⟨b130_e0, h⟩ | ⟨b130_e0, h⟩
    · refine At.step hm ht ⟨[], [true], [], [1, 2, 5, 6], [0, 1]⟩ 7 ⟨[(1, .one (.c (.d (.sl (.slice (.int .u8)) l)))), (2, .one (.c (.ptr 0 0))), (5, .one (.c (.own 1 (.int .u8) all))), (6, .one (.c (.d (.int .i64 i))))], [(1, some ⟨5, 0⟩)], [(0, [.d (.int .u64 k_0), .d (.int .u64 k_1)])], 2⟩ [(decide ((i : Int) < ((l.length : Nat) : Int))) = true] (by kernel_rfl) ⟨b130_e0, trivial⟩ ?_
      obtain ⟨g131_0, h⟩ := ifS h
      rcases iteS h with ⟨b131_e0, h⟩ | ⟨b131_e0, h⟩
      · refine At.step hm ht ⟨[], [true], [], [], []⟩ 8 ⟨[], [], [], 0⟩ [(0 : Int) ≤ i ∧ i < (((l).length : Nat) : Int), (decide (((((l.getD i.toNat []).length : Nat) : Int) : Int) > 300)) = true] (by kernel_rfl) ⟨g131_0, b131_e0, trivial⟩ ?_
        have h := Option.some.inj h
        subst h
        have hk : o = f11_broughamlaw03_SipParts_out true := hk
        subst hk
        exact At.fin hm ht ⟨[], [], [], [4], []⟩ [] (by kernel_rfl) trivial
      · refine At.step hm ht ⟨[], [false], [], [1, 2, 5, 6], [0, 1]⟩ 9 ⟨[(1, .one (.c (.d (.sl (.slice (.int .u8)) l)))), (2, .one (.c (.ptr 0 0))), (5, .one (.c (.own 1 (.int .u8) all))), (6, .one (.c (.d (.int .i64 i))))], [(1, some ⟨5, 0⟩)], [(0, [.d (.int .u64 k_0), .d (.int .u64 k_1)])], 2⟩ [(0 : Int) ≤ i ∧ i < (((l).length : Nat) : Int), (decide (((((l.getD i.toNat []).length : Nat) : Int) : Int) > 300)) = false] (by kernel_rfl) ⟨g131_0, b131_e0, trivial⟩ ?_
        obtain ⟨g133_0, h⟩ := ifS h
        obtain ⟨g133_1, h⟩ := ifS h
        refine At.step hm ht ⟨[], [], [], [1, 2, 5, 6], [0, 7]⟩ 6 ⟨[(1, .one (.c (.d (.sl (.slice (.int .u8)) l)))), (2, .one (.c (.ptr 0 0))), (5, .one (.c (.own 1 (.int .u8) (all ++ (l.getD i.toNat []))))), (6, .one (.c (.d (.int .i64 i))))], [(1, some ⟨5, 0⟩)], [(0, [.d (.int .u64 k_0), .d (.int .u64 k_1)])], 2⟩ [(0 : Int) ≤ i ∧ i < (((l).length : Nat) : Int), all.length + (l.getD i.toNat []).length ≤ maxLen ∧ (all.length + (l.getD i.toNat []).length) * 1 ≤ 140737488355328] (by kernel_rfl) ⟨g133_0, g133_1, trivial⟩ ?_
        refine At.step hm ht ⟨[], [], [], [1, 2, 5, 6], [0, 1]⟩ 5 ⟨[(1, .one (.c (.d (.sl (.slice (.int .u8)) l)))), (2, .one (.c (.ptr 0 0))), (5, .one (.c (.own 1 (.int .u8) (all ++ (l.getD i.toNat []))))), (6, .one (.c (.d (.int .i64 (IntKind.wrap .i64 (i + 1))))))], [(1, some ⟨5, 0⟩)], [(0, [.d (.int .u64 k_0), .d (.int .u64 k_1)])], 2⟩ [] (by kernel_rfl) trivial ?_
        exact ih l (all ++ (l.getD i.toNat [])) (IntKind.wrap .i64 (i + 1)) k_0 k_1 w h o hk
    · refine At.step hm ht ⟨[], [false], [], [1, 2, 5], [0, 1]⟩ 10 ⟨[(1, .one (.c (.d (.sl (.slice (.int .u8)) l)))), (2, .one (.c (.ptr 0 0))), (5, .one (.c (.own 1 (.int .u8) all)))], [(1, some ⟨5, 0⟩)], [(0, [.d (.int .u64 k_0), .d (.int .u64 k_1)])], 2⟩ [(decide ((i : Int) < ((l.length : Nat) : Int))) = false] (by kernel_rfl) ⟨b130_e0, trivial⟩ ?_
      have h := Option.some.inj h
      subst h
      exact hk
def f11_broughamlaw03_SipParts (n : Nat) (k_0 : Int) (k_1 : Int) (l : List (List Int)) : Option (Bool) :=
  if (decide ((((l.length : Nat) : Int) : Int) > 60)) = true then
    some true
  else
    (f11_broughamlaw03_SipParts_L5 n l [] 0 k_0 k_1).bind fun w135 =>
    match w135 with
    | .inl e136 =>
      some e136
    | .inr e137 =>
      (f56_sip_Sum n e137.2.2.1 e137.2.2.2 e137.1).bind fun r138_0 =>
      (f56_sip_Sum n e137.2.2.1 e137.2.2.2 [e137.2.1]).bind fun r138_1 =>
      if ((r138_0 : Int) == r138_1) = true then
        (f58_sip_Pair n e137.2.2.1 e137.2.2.2 e137.1).bind fun r138_2 =>
        (f58_sip_Pair n e137.2.2.1 e137.2.2.2 [e137.2.1]).bind fun r138_3 =>
        if (((r138_2.1 : Int) == r138_3.1) && ((r138_2.2 : Int) == r138_3.2)) = true then
          (f60_broughamlaw03_alive n).bind fun r138_4 =>
          some r138_4
        else
          some false
      else
        some false
theorem f11_broughamlaw03_SipParts_ok (n : Nat) (k_0 : Int) (k_1 : Int) (l : List (List Int)) (r : Bool) (h : f11_broughamlaw03_SipParts n k_0 k_1 l = some r) : FnOK Go.Proofs.Try.prog 11 (f11_broughamlaw03_SipParts_in k_0 k_1 l) (f11_broughamlaw03_SipParts_out r) := by
  unfold f11_broughamlaw03_SipParts at h
  refine At.fn (r := 0) Go.Proofs.Try.func11 rfl (by kernel_rfl) rfl rfl (by kernel_rfl) ?_
  show At Go.Proofs.Try.prog Go.Proofs.Try.f11 0 0 ⟨[(0, .one (.agg [.d (.int .u64 k_0), .d (.int .u64 k_1)])), (1, .one (.c (.d (.sl (.slice (.int .u8)) l))))], [], [], 0⟩ _
  refine At.step hm ht ⟨[], [], [], [1, 2], [0]⟩ 1 ⟨[(1, .one (.c (.d (.sl (.slice (.int .u8)) l)))), (2, .one (.c (.ptr 0 0)))], [], [(0, [.d (.int .u64 k_0), .d (.int .u64 k_1)])], 1⟩ [] (by kernel_rfl) trivial ?_
  rcases iteS h with ⟨b126_e0, h⟩ | ⟨b126_e0, h⟩
  · refine At.step hm ht ⟨[], [true], [], [], []⟩ 2 ⟨[], [], [], 0⟩ [(decide ((((l.length : Nat) : Int) : Int) > 60)) = true] (by kernel_rfl) ⟨b126_e0, trivial⟩ ?_
    have h := Option.some.inj h
    subst h
    exact At.fin hm ht ⟨[], [], [], [4], []⟩ [] (by kernel_rfl) trivial
  · refine At.step hm ht ⟨[], [false], [], [1, 2], [0]⟩ 3 ⟨[(1, .one (.c (.d (.sl (.slice (.int .u8)) l)))), (2, .one (.c (.ptr 0 0)))], [], [(0, [.d (.int .u64 k_0), .d (.int .u64 k_1)])], 1⟩ [(decide ((((l.length : Nat) : Int) : Int) > 60)) = false] (by kernel_rfl) ⟨b126_e0, trivial⟩ ?_
    refine At.step hm ht ⟨[], [], [], [1, 2, 5], [0]⟩ 4 ⟨[(1, .one (.c (.d (.sl (.slice (.int .u8)) l)))), (2, .one (.c (.ptr 0 0))), (5, .one (.c (.d (.sl .unit []))))], [], [(0, [.d (.int .u64 k_0), .d (.int .u64 k_1)])], 1⟩ [] (by kernel_rfl) trivial ?_
    refine At.step hm ht ⟨[], [], [.nil false 5 0 (.int .u8) (some 5)], [1, 2, 5, 6], [0, 2]⟩ 5 ⟨[(1, .one (.c (.d (.sl (.slice (.int .u8)) l)))), (2, .one (.c (.ptr 0 0))), (5, .one (.c (.own 1 (.int .u8) []))), (6, .one (.c (.d (.int .i64 0))))], [(1, some ⟨5, 0⟩)], [(0, [.d (.int .u64 k_0), .d (.int .u64 k_1)])], 2⟩ [] (by kernel_rfl) trivial ?_
    obtain ⟨w135, cw135, h⟩ := bindS h
    refine f11_broughamlaw03_SipParts_L5_ok n l [] 0 k_0 k_1 w135 cw135 _ ?_
    rcases w135 with e136 | e137
    · have h := Option.some.inj h
      subst h
      rfl
    · show At Go.Proofs.Try.prog Go.Proofs.Try.f11 0 10 ⟨[(1, .one (.c (.d (.sl (.slice (.int .u8)) e137.1)))), (2, .one (.c (.ptr 0 0))), (5, .one (.c (.own 1 (.int .u8) e137.2.1)))], [(1, some ⟨5, 0⟩)], [(0, [.d (.int .u64 e137.2.2.1), .d (.int .u64 e137.2.2.2)])], 2⟩ _
      obtain ⟨r138_0, cr138_0, h⟩ := bindS h
      obtain ⟨r138_1, cr138_1, h⟩ := bindS h
      rcases iteS h with ⟨b138_8, h⟩ | ⟨b138_8, h⟩
      · obtain ⟨r138_2, cr138_2, h⟩ := bindS h
        obtain ⟨r138_3, cr138_3, h⟩ := bindS h
        rcases iteS h with ⟨b138_18, h⟩ | ⟨b138_18, h⟩
        · obtain ⟨r138_4, cr138_4, h⟩ := bindS h
          have h := Option.some.inj h
          subst h
          exact At.fin hm ht ⟨[(2, .call [] [] (f56_sip_Sum_out r138_0)), (6, .call [] [] (f56_sip_Sum_out r138_1)), (8, .b true), (11, .call [] [] (f58_sip_Pair_out r138_2)), (15, .call [] [] (f58_sip_Pair_out r138_3)), (18, .b true), (19, .call [] [] (f60_broughamlaw03_alive_out r138_4))], [], [], [4], []⟩ [FnOK Go.Proofs.Try.prog 56 (f56_sip_Sum_in e137.2.2.1 e137.2.2.2 e137.1) (f56_sip_Sum_out r138_0), FnOK Go.Proofs.Try.prog 56 (f56_sip_Sum_in e137.2.2.1 e137.2.2.2 [e137.2.1]) (f56_sip_Sum_out r138_1), ((r138_0 : Int) == r138_1) = true, FnOK Go.Proofs.Try.prog 58 (f58_sip_Pair_in e137.2.2.1 e137.2.2.2 e137.1) (f58_sip_Pair_out r138_2), FnOK Go.Proofs.Try.prog 58 (f58_sip_Pair_in e137.2.2.1 e137.2.2.2 [e137.2.1]) (f58_sip_Pair_out r138_3), (((r138_2.1 : Int) == r138_3.1) && ((r138_2.2 : Int) == r138_3.2)) = true, FnOK Go.Proofs.Try.prog 60 (f60_broughamlaw03_alive_in) (f60_broughamlaw03_alive_out r138_4)] (by kernel_rfl) ⟨(f56_sip_Sum_ok n e137.2.2.1 e137.2.2.2 e137.1 r138_0 cr138_0), (f56_sip_Sum_ok n e137.2.2.1 e137.2.2.2 [e137.2.1] r138_1 cr138_1), b138_8, (f58_sip_Pair_ok n e137.2.2.1 e137.2.2.2 e137.1 r138_2 cr138_2), (f58_sip_Pair_ok n e137.2.2.1 e137.2.2.2 [e137.2.1] r138_3 cr138_3), b138_18, (f60_broughamlaw03_alive_ok n r138_4 cr138_4), trivial⟩
        · have h := Option.some.inj h
          subst h
          exact At.fin hm ht ⟨[(2, .call [] [] (f56_sip_Sum_out r138_0)), (6, .call [] [] (f56_sip_Sum_out r138_1)), (8, .b true), (11, .call [] [] (f58_sip_Pair_out r138_2)), (15, .call [] [] (f58_sip_Pair_out r138_3)), (18, .b false)], [], [], [4], []⟩ [FnOK Go.Proofs.Try.prog 56 (f56_sip_Sum_in e137.2.2.1 e137.2.2.2 e137.1) (f56_sip_Sum_out r138_0), FnOK Go.Proofs.Try.prog 56 (f56_sip_Sum_in e137.2.2.1 e137.2.2.2 [e137.2.1]) (f56_sip_Sum_out r138_1), ((r138_0 : Int) == r138_1) = true, FnOK Go.Proofs.Try.prog 58 (f58_sip_Pair_in e137.2.2.1 e137.2.2.2 e137.1) (f58_sip_Pair_out r138_2), FnOK Go.Proofs.Try.prog 58 (f58_sip_Pair_in e137.2.2.1 e137.2.2.2 [e137.2.1]) (f58_sip_Pair_out r138_3), (((r138_2.1 : Int) == r138_3.1) && ((r138_2.2 : Int) == r138_3.2)) = false] (by kernel_rfl) ⟨(f56_sip_Sum_ok n e137.2.2.1 e137.2.2.2 e137.1 r138_0 cr138_0), (f56_sip_Sum_ok n e137.2.2.1 e137.2.2.2 [e137.2.1] r138_1 cr138_1), b138_8, (f58_sip_Pair_ok n e137.2.2.1 e137.2.2.2 e137.1 r138_2 cr138_2), (f58_sip_Pair_ok n e137.2.2.1 e137.2.2.2 [e137.2.1] r138_3 cr138_3), b138_18, trivial⟩
      · have h := Option.some.inj h
        subst h
        exact At.fin hm ht ⟨[(2, .call [] [] (f56_sip_Sum_out r138_0)), (6, .call [] [] (f56_sip_Sum_out r138_1)), (8, .b false)], [], [], [4], []⟩ [FnOK Go.Proofs.Try.prog 56 (f56_sip_Sum_in e137.2.2.1 e137.2.2.2 e137.1) (f56_sip_Sum_out r138_0), FnOK Go.Proofs.Try.prog 56 (f56_sip_Sum_in e137.2.2.1 e137.2.2.2 [e137.2.1]) (f56_sip_Sum_out r138_1), ((r138_0 : Int) == r138_1) = false] (by kernel_rfl) ⟨(f56_sip_Sum_ok n e137.2.2.1 e137.2.2.2 e137.1 r138_0 cr138_0), (f56_sip_Sum_ok n e137.2.2.1 e137.2.2.2 [e137.2.1] r138_1 cr138_1), b138_8, trivial⟩
end Go.Proofs.YtjimlfjhhmdcdaaF03
