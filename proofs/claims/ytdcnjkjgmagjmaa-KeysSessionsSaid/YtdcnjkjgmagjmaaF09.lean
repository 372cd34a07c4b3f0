/- What the functions compute, and that they do: printed by a program of this session (zgen.py), proved by Zed. -/
import Derived.Test.YtdcnjkjgmagjmaaProg
import Derived.Test.YtdcnjkjgmagjmaaZedY
namespace Go.Proofs.YtdcnjkjgmagjmaaF09
open Go Zed
set_option maxRecDepth 100000
set_option linter.unusedVariables false
def tab : Tab := [(3, ⟨.int .i64, 1, 8, [.int .i64 0], some (.int .i64), none⟩), (4, ⟨.bool, 1, 1, [.bool false], some .bool, none⟩), (5, ⟨.int .u8, 1, 1, [.int .u8 0], some (.int .u8), none⟩), (9, ⟨.str, 1, 16, [.str (⟨#[]⟩ : ByteArray)], some .str, none⟩), (22, ⟨.int .u32, 1, 4, [.int .u32 0], some (.int .u32), none⟩), (28, ⟨.slice 5, 1, 24, [.sl .unit []], some (.slice (.int .u8)), none⟩), (49, ⟨.int .u64, 1, 8, [.int .u64 0], some (.int .u64), none⟩), (74, ⟨.arr 4 49, 4, 32, [.int .u64 0, .int .u64 0, .int .u64 0, .int .u64 0], some (.pair (.int .u64) (.pair (.int .u64) (.pair (.int .u64) (.int .u64)))), none⟩), (79, ⟨.slice 28, 1, 24, [.sl .unit []], some (.slice (.slice (.int .u8))), none⟩), (92, ⟨.struct [(0, 49), (1, 49)], 2, 16, [.int .u64 0, .int .u64 0], some (.pair (.int .u64) (.int .u64)), some [(0, 49), (1, 49)]⟩), (94, ⟨.struct [(0, 92), (2, 92), (4, 92), (6, 92), (8, 22)], 9, 72, [.int .u64 0, .int .u64 0, .int .u64 0, .int .u64 0, .int .u64 0, .int .u64 0, .int .u64 0, .int .u64 0, .int .u32 0], some (.pair (.pair (.int .u64) (.int .u64)) (.pair (.pair (.int .u64) (.int .u64)) (.pair (.pair (.int .u64) (.int .u64)) (.pair (.pair (.int .u64) (.int .u64)) (.int .u32))))), some [(0, 92), (2, 92), (4, 92), (6, 92), (8, 22)]⟩), (95, ⟨.int .i64, 1, 8, [.int .i64 0], some (.int .i64), none⟩), (100, ⟨.struct [(0, 22), (1, 22)], 2, 8, [.int .u32 0, .int .u32 0], some (.pair (.int .u32) (.int .u32)), some [(0, 22), (1, 22)]⟩), (109, ⟨.struct [(0, 49), (1, 3)], 2, 16, [.int .u64 0, .int .i64 0], some (.pair (.int .u64) (.int .i64)), some [(0, 49), (1, 3)]⟩), (111, ⟨.struct [(0, 92), (2, 49)], 3, 24, [.int .u64 0, .int .u64 0, .int .u64 0], some (.pair (.pair (.int .u64) (.int .u64)) (.int .u64)), some [(0, 92), (2, 49)]⟩), (157, ⟨.struct [(0, 3), (1, 49)], 2, 16, [.int .i64 0, .int .u64 0], some (.pair (.int .i64) (.int .u64)), some [(0, 3), (1, 49)]⟩), (189, ⟨.int .u64, 1, 8, [.int .u64 0], some (.int .u64), none⟩), (194, ⟨.struct [(0, 49), (1, 49), (2, 49), (3, 49)], 4, 32, [.int .u64 0, .int .u64 0, .int .u64 0, .int .u64 0], some (.pair (.int .u64) (.pair (.int .u64) (.pair (.int .u64) (.int .u64)))), some [(0, 49), (1, 49), (2, 49), (3, 49)]⟩), (197, ⟨.slice 157, 1, 24, [.sl .unit []], some (.slice (.pair (.int .i64) (.int .u64))), none⟩), (204, ⟨.struct [(0, 74), (4, 49), (5, 3)], 6, 48, [.int .u64 0, .int .u64 0, .int .u64 0, .int .u64 0, .int .u64 0, .int .i64 0], some (.pair (.pair (.int .u64) (.pair (.int .u64) (.pair (.int .u64) (.int .u64)))) (.pair (.int .u64) (.int .i64))), some [(0, 74), (4, 49), (5, 3)]⟩)]
theorem ht : TabOk Go.Proofs.Try.prog tab := tabOk_of (ts := [3, 4, 5, 9, 22, 28, 49, 74, 79, 92, 94, 95, 100, 109, 111, 157, 189, 194, 197, 204]) (by kernel_rfl)
theorem hm : Go.Proofs.Try.prog.follows .mixedOrders = true := by kernel_rfl
/-! brougham/keys.Other -/
def f40_keys_Other_in (r_ : Int) : Inn := ⟨[.c (.d (.int .i64 r_))], [], [], 0⟩
def f40_keys_Other_out (r : Int) : Out := ⟨.one (.c (.d (.int .i64 r))), [], [], 0⟩
def f40_keys_Other (r_ : Int) : Option (Int) :=
  if ((r_ : Int) == 1) = true then
    some 2
  else
    some 1
theorem f40_keys_Other_ok (r_ : Int) (r : Int) (h : f40_keys_Other r_ = some r) : FnOK Go.Proofs.Try.prog 40 (f40_keys_Other_in r_) (f40_keys_Other_out r) := by
  unfold f40_keys_Other at h
  refine At.fn (r := 0) Go.Proofs.Try.func40 rfl (by kernel_rfl) rfl rfl (by kernel_rfl) ?_
  show At Go.Proofs.Try.prog Go.Proofs.Try.f40 0 0 ⟨[(0, .one (.c (.d (.int .i64 r_))))], [], [], 0⟩ _
  refine At.step hm ht ⟨[], [], [], [0], []⟩ 1 ⟨[(0, .one (.c (.d (.int .i64 r_))))], [], [], 0⟩ [] (by kernel_rfl) trivial ?_
  rcases iteS h with ⟨b4_e0, h⟩ | ⟨b4_e0, h⟩
  · refine At.step hm ht ⟨[], [true], [], [], []⟩ 2 ⟨[], [], [], 0⟩ [((r_ : Int) == 1) = true] (by kernel_rfl) ⟨b4_e0, trivial⟩ ?_
    have h := Option.some.inj h
    subst h
    exact At.fin hm ht ⟨[], [], [], [2], []⟩ [] (by kernel_rfl) trivial
  · refine At.step hm ht ⟨[], [false], [], [], []⟩ 3 ⟨[], [], [], 0⟩ [((r_ : Int) == 1) = false] (by kernel_rfl) ⟨b4_e0, trivial⟩ ?_
    have h := Option.some.inj h
    subst h
    exact At.fin hm ht ⟨[], [], [], [2], []⟩ [] (by kernel_rfl) trivial
/-! (brougham/keys.Keys).Out -/
def f41_keys_Keys_Out_in (k_0 : Int) (k_1 : Int) (k_2 : Int) (k_3 : Int) (k_4 : Int) (k_5 : Int) (k_6 : Int) (k_7 : Int) (k_8 : Int) (r_ : Int) : Inn := ⟨[.agg [.d (.int .u64 k_0), .d (.int .u64 k_1), .d (.int .u64 k_2), .d (.int .u64 k_3), .d (.int .u64 k_4), .d (.int .u64 k_5), .d (.int .u64 k_6), .d (.int .u64 k_7), .d (.int .u32 k_8)], .c (.d (.int .i64 r_))], [], [], 0⟩
def f41_keys_Keys_Out_out (r : Int × Int) : Out := ⟨.one (.agg [.d (.int .u64 r.1), .d (.int .u64 r.2)]), [], [(0, [.d (.int .u64 r.1), .d (.int .u64 r.2)])], 1⟩
def f41_keys_Keys_Out (k_0 : Int) (k_1 : Int) (k_2 : Int) (k_3 : Int) (k_4 : Int) (k_5 : Int) (k_6 : Int) (k_7 : Int) (k_8 : Int) (r_ : Int) : Option (Int × Int) :=
  if ((r_ : Int) == 1) = true then
    some (k_2, k_3)
  else
    some (k_4, k_5)
theorem f41_keys_Keys_Out_ok (k_0 : Int) (k_1 : Int) (k_2 : Int) (k_3 : Int) (k_4 : Int) (k_5 : Int) (k_6 : Int) (k_7 : Int) (k_8 : Int) (r_ : Int) (r : Int × Int) (h : f41_keys_Keys_Out k_0 k_1 k_2 k_3 k_4 k_5 k_6 k_7 k_8 r_ = some r) : FnOK Go.Proofs.Try.prog 41 (f41_keys_Keys_Out_in k_0 k_1 k_2 k_3 k_4 k_5 k_6 k_7 k_8 r_) (f41_keys_Keys_Out_out r) := by
  unfold f41_keys_Keys_Out at h
  refine At.fn (r := 0) Go.Proofs.Try.func41 rfl (by kernel_rfl) rfl rfl (by kernel_rfl) ?_
  show At Go.Proofs.Try.prog Go.Proofs.Try.f41 0 0 ⟨[(0, .one (.agg [.d (.int .u64 k_0), .d (.int .u64 k_1), .d (.int .u64 k_2), .d (.int .u64 k_3), .d (.int .u64 k_4), .d (.int .u64 k_5), .d (.int .u64 k_6), .d (.int .u64 k_7), .d (.int .u32 k_8)])), (1, .one (.c (.d (.int .i64 r_))))], [], [], 0⟩ _
  refine At.step hm ht ⟨[], [], [], [1, 2, 4], [0, 1]⟩ 1 ⟨[(1, .one (.c (.d (.int .i64 r_)))), (2, .one (.c (.ptr 0 0))), (4, .one (.c (.ptr 1 0)))], [], [(0, [.d (.int .u64 k_0), .d (.int .u64 k_1), .d (.int .u64 k_2), .d (.int .u64 k_3), .d (.int .u64 k_4), .d (.int .u64 k_5), .d (.int .u64 k_6), .d (.int .u64 k_7), .d (.int .u32 k_8)]), (1, [.d (.int .u64 0), .d (.int .u64 0)])], 2⟩ [] (by kernel_rfl) trivial ?_
  rcases iteS h with ⟨b12_e0, h⟩ | ⟨b12_e0, h⟩
  · refine At.step hm ht ⟨[], [true], [], [2, 4], [0, 1]⟩ 2 ⟨[(2, .one (.c (.ptr 0 0))), (4, .one (.c (.ptr 1 0)))], [], [(0, [.d (.int .u64 k_0), .d (.int .u64 k_1), .d (.int .u64 k_2), .d (.int .u64 k_3), .d (.int .u64 k_4), .d (.int .u64 k_5), .d (.int .u64 k_6), .d (.int .u64 k_7), .d (.int .u32 k_8)]), (1, [.d (.int .u64 0), .d (.int .u64 0)])], 2⟩ [((r_ : Int) == 1) = true] (by kernel_rfl) ⟨b12_e0, trivial⟩ ?_
    have h := Option.some.inj h
    subst h
    exact At.fin hm ht ⟨[], [], [], [4], [1]⟩ [0 + 2 ≤ 2] (by kernel_rfl) ⟨(by decide), trivial⟩
  · refine At.step hm ht ⟨[], [false], [], [2, 4], [0, 1]⟩ 3 ⟨[(2, .one (.c (.ptr 0 0))), (4, .one (.c (.ptr 1 0)))], [], [(0, [.d (.int .u64 k_0), .d (.int .u64 k_1), .d (.int .u64 k_2), .d (.int .u64 k_3), .d (.int .u64 k_4), .d (.int .u64 k_5), .d (.int .u64 k_6), .d (.int .u64 k_7), .d (.int .u32 k_8)]), (1, [.d (.int .u64 0), .d (.int .u64 0)])], 2⟩ [((r_ : Int) == 1) = false] (by kernel_rfl) ⟨b12_e0, trivial⟩ ?_
    have h := Option.some.inj h
    subst h
    exact At.fin hm ht ⟨[], [], [], [4], [1]⟩ [0 + 2 ≤ 2] (by kernel_rfl) ⟨(by decide), trivial⟩
/-! (brougham/keys.Keys).In -/
def f42_keys_Keys_In_in (k_0 : Int) (k_1 : Int) (k_2 : Int) (k_3 : Int) (k_4 : Int) (k_5 : Int) (k_6 : Int) (k_7 : Int) (k_8 : Int) (r_ : Int) : Inn := ⟨[.agg [.d (.int .u64 k_0), .d (.int .u64 k_1), .d (.int .u64 k_2), .d (.int .u64 k_3), .d (.int .u64 k_4), .d (.int .u64 k_5), .d (.int .u64 k_6), .d (.int .u64 k_7), .d (.int .u32 k_8)], .c (.d (.int .i64 r_))], [], [], 0⟩
def f42_keys_Keys_In_out (r : Int × Int) : Out := ⟨.one (.agg [.d (.int .u64 r.1), .d (.int .u64 r.2)]), [], [(0, [.d (.int .u64 r.1), .d (.int .u64 r.2)])], 1⟩
def f42_keys_Keys_In (k_0 : Int) (k_1 : Int) (k_2 : Int) (k_3 : Int) (k_4 : Int) (k_5 : Int) (k_6 : Int) (k_7 : Int) (k_8 : Int) (r_ : Int) : Option (Int × Int) :=
  if ((r_ : Int) == 1) = true then
    some (k_4, k_5)
  else
    some (k_2, k_3)
theorem f42_keys_Keys_In_ok (k_0 : Int) (k_1 : Int) (k_2 : Int) (k_3 : Int) (k_4 : Int) (k_5 : Int) (k_6 : Int) (k_7 : Int) (k_8 : Int) (r_ : Int) (r : Int × Int) (h : f42_keys_Keys_In k_0 k_1 k_2 k_3 k_4 k_5 k_6 k_7 k_8 r_ = some r) : FnOK Go.Proofs.Try.prog 42 (f42_keys_Keys_In_in k_0 k_1 k_2 k_3 k_4 k_5 k_6 k_7 k_8 r_) (f42_keys_Keys_In_out r) := by
  unfold f42_keys_Keys_In at h
  refine At.fn (r := 0) Go.Proofs.Try.func42 rfl (by kernel_rfl) rfl rfl (by kernel_rfl) ?_
  show At Go.Proofs.Try.prog Go.Proofs.Try.f42 0 0 ⟨[(0, .one (.agg [.d (.int .u64 k_0), .d (.int .u64 k_1), .d (.int .u64 k_2), .d (.int .u64 k_3), .d (.int .u64 k_4), .d (.int .u64 k_5), .d (.int .u64 k_6), .d (.int .u64 k_7), .d (.int .u32 k_8)])), (1, .one (.c (.d (.int .i64 r_))))], [], [], 0⟩ _
  refine At.step hm ht ⟨[], [], [], [1, 2, 4], [0, 1]⟩ 1 ⟨[(1, .one (.c (.d (.int .i64 r_)))), (2, .one (.c (.ptr 0 0))), (4, .one (.c (.ptr 1 0)))], [], [(0, [.d (.int .u64 k_0), .d (.int .u64 k_1), .d (.int .u64 k_2), .d (.int .u64 k_3), .d (.int .u64 k_4), .d (.int .u64 k_5), .d (.int .u64 k_6), .d (.int .u64 k_7), .d (.int .u32 k_8)]), (1, [.d (.int .u64 0), .d (.int .u64 0)])], 2⟩ [] (by kernel_rfl) trivial ?_
  rcases iteS h with ⟨b16_e0, h⟩ | ⟨b16_e0, h⟩
  · refine At.step hm ht ⟨[], [true], [], [2, 4], [0, 1]⟩ 2 ⟨[(2, .one (.c (.ptr 0 0))), (4, .one (.c (.ptr 1 0)))], [], [(0, [.d (.int .u64 k_0), .d (.int .u64 k_1), .d (.int .u64 k_2), .d (.int .u64 k_3), .d (.int .u64 k_4), .d (.int .u64 k_5), .d (.int .u64 k_6), .d (.int .u64 k_7), .d (.int .u32 k_8)]), (1, [.d (.int .u64 0), .d (.int .u64 0)])], 2⟩ [((r_ : Int) == 1) = true] (by kernel_rfl) ⟨b16_e0, trivial⟩ ?_
    have h := Option.some.inj h
    subst h
    exact At.fin hm ht ⟨[], [], [], [4], [1]⟩ [0 + 2 ≤ 2] (by kernel_rfl) ⟨(by decide), trivial⟩
  · refine At.step hm ht ⟨[], [false], [], [2, 4], [0, 1]⟩ 3 ⟨[(2, .one (.c (.ptr 0 0))), (4, .one (.c (.ptr 1 0)))], [], [(0, [.d (.int .u64 k_0), .d (.int .u64 k_1), .d (.int .u64 k_2), .d (.int .u64 k_3), .d (.int .u64 k_4), .d (.int .u64 k_5), .d (.int .u64 k_6), .d (.int .u64 k_7), .d (.int .u32 k_8)]), (1, [.d (.int .u64 0), .d (.int .u64 0)])], 2⟩ [((r_ : Int) == 1) = false] (by kernel_rfl) ⟨b16_e0, trivial⟩ ?_
    have h := Option.some.inj h
    subst h
    exact At.fin hm ht ⟨[], [], [], [4], [1]⟩ [0 + 2 ≤ 2] (by kernel_rfl) ⟨(by decide), trivial⟩
/-! brougham/sip.begin -/
def f116_sip_begin_in (k_0 : Int) (k_1 : Int) : Inn := ⟨[.agg [.d (.int .u64 k_0), .d (.int .u64 k_1)]], [], [], 0⟩
def f116_sip_begin_out (r : Int × Int × Int × Int × Int × Int) : Out := ⟨.one (.c (.ptr 0 0)), [], [(0, [.d (.int .u64 r.1), .d (.int .u64 r.2.1), .d (.int .u64 r.2.2.1), .d (.int .u64 r.2.2.2.1), .d (.int .u64 r.2.2.2.2.1), .d (.int .i64 r.2.2.2.2.2)])], 1⟩
def f116_sip_begin (k_0 : Int) (k_1 : Int) : Option (Int × Int × Int × Int × Int × Int) :=
  some ((bits .xor .u64 k_0 8317987319222330741), (bits .xor .u64 k_1 7237128888997146477), (bits .xor .u64 k_0 7816392313619706465), (bits .xor .u64 k_1 8387220255154660723), 0, 0)
theorem f116_sip_begin_ok (k_0 : Int) (k_1 : Int) (r : Int × Int × Int × Int × Int × Int) (h : f116_sip_begin k_0 k_1 = some r) : FnOK Go.Proofs.Try.prog 116 (f116_sip_begin_in k_0 k_1) (f116_sip_begin_out r) := by
  unfold f116_sip_begin at h
  refine At.fn (r := 0) Go.Proofs.Try.func116 rfl (by kernel_rfl) rfl rfl (by kernel_rfl) ?_
  show At Go.Proofs.Try.prog Go.Proofs.Try.f116 0 0 ⟨[(0, .one (.agg [.d (.int .u64 k_0), .d (.int .u64 k_1)]))], [], [], 0⟩ _
  refine At.step hm ht ⟨[], [], [], [1], [0]⟩ 1 ⟨[(1, .one (.c (.ptr 0 0)))], [], [(0, [.d (.int .u64 k_0), .d (.int .u64 k_1)])], 1⟩ [] (by kernel_rfl) trivial ?_
  have h := Option.some.inj h
  subst h
  exact At.fin hm ht ⟨[], [], [], [2], [15]⟩ [] (by kernel_rfl) trivial
/-! math/bits.RotateLeft64 -/
def f141_bits_RotateLeft64_in (x : Int) (k : Int) : Inn := ⟨[.c (.d (.int .u64 x)), .c (.d (.int .i64 k))], [], [], 0⟩
def f141_bits_RotateLeft64_out (r : Int) : Out := ⟨.one (.c (.d (.int .u64 r))), [], [], 0⟩
def f141_bits_RotateLeft64 (x : Int) (k : Int) : Option (Int) :=
  if (0 : Int) ≤ (bits .and .u64 (IntKind.wrap .u64 k) 63) then
  if (0 : Int) ≤ (IntKind.wrap .u64 (64 - (bits .and .u64 (IntKind.wrap .u64 k) 63))) then
  some (bits .or .u64 (IntKind.wrap .u64 (x * 2 ^ (min (bits .and .u64 (IntKind.wrap .u64 k) 63).toNat (IntKind.bits .u64)))) (Int.fdiv x (2 ^ (min (IntKind.wrap .u64 (64 - (bits .and .u64 (IntKind.wrap .u64 k) 63))).toNat (IntKind.bits .u64)))))
  else none
  else none
theorem f141_bits_RotateLeft64_ok (x : Int) (k : Int) (r : Int) (h : f141_bits_RotateLeft64 x k = some r) : FnOK Go.Proofs.Try.prog 141 (f141_bits_RotateLeft64_in x k) (f141_bits_RotateLeft64_out r) := by
  unfold f141_bits_RotateLeft64 at h
  refine At.fn (r := 0) Go.Proofs.Try.func141 rfl (by kernel_rfl) rfl rfl (by kernel_rfl) ?_
  show At Go.Proofs.Try.prog Go.Proofs.Try.f141 0 0 ⟨[(0, .one (.c (.d (.int .u64 x)))), (1, .one (.c (.d (.int .i64 k))))], [], [], 0⟩ _
  refine At.step hm ht ⟨[], [], [], [0, 1], []⟩ 1 ⟨[(0, .one (.c (.d (.int .u64 x)))), (1, .one (.c (.d (.int .i64 k))))], [], [], 0⟩ [] (by kernel_rfl) trivial ?_
  refine At.step hm ht ⟨[], [], [], [0, 5], []⟩ 2 ⟨[(0, .one (.c (.d (.int .u64 x)))), (5, .one (.c (.d (.int .u64 (bits .and .u64 (IntKind.wrap .u64 k) 63)))))], [], [], 0⟩ [] (by kernel_rfl) trivial ?_
  obtain ⟨g51_0, h⟩ := ifS h
  obtain ⟨g51_1, h⟩ := ifS h
  have h := Option.some.inj h
  subst h
  exact At.fin hm ht ⟨[], [], [], [4], []⟩ [(0 : Int) ≤ (bits .and .u64 (IntKind.wrap .u64 k) 63), (0 : Int) ≤ (IntKind.wrap .u64 (64 - (bits .and .u64 (IntKind.wrap .u64 k) 63)))] (by kernel_rfl) ⟨g51_0, g51_1, trivial⟩
/-! (*brougham/sip.state).round -/
def f139_sip_state_round_in (s_0 : Int) (s_1 : Int) (s_2 : Int) (s_3 : Int) (s_4 : Int) (s_5 : Int) : Inn := ⟨[.c (.ptr 0 0)], [], [(0, [.d (.int .u64 s_0), .d (.int .u64 s_1), .d (.int .u64 s_2), .d (.int .u64 s_3), .d (.int .u64 s_4), .d (.int .i64 s_5)])], 1⟩
def f139_sip_state_round_out (r : Int × Int × Int × Int × Int × Int) : Out := ⟨.tup [], [], [(0, [.d (.int .u64 r.1), .d (.int .u64 r.2.1), .d (.int .u64 r.2.2.1), .d (.int .u64 r.2.2.2.1), .d (.int .u64 r.2.2.2.2.1), .d (.int .i64 r.2.2.2.2.2)])], 1⟩
def f139_sip_state_round (s_0 : Int) (s_1 : Int) (s_2 : Int) (s_3 : Int) (s_4 : Int) (s_5 : Int) : Option (Int × Int × Int × Int × Int × Int) :=
  (f141_bits_RotateLeft64 s_1 13).bind fun r48_0 =>
  (f141_bits_RotateLeft64 s_3 16).bind fun r52_0 =>
  (f141_bits_RotateLeft64 (IntKind.wrap .u64 (s_0 + s_1)) 32).bind fun r53_0 =>
  (f141_bits_RotateLeft64 (bits .xor .u64 r48_0 (IntKind.wrap .u64 (s_0 + s_1))) 17).bind fun r56_0 =>
  (f141_bits_RotateLeft64 (bits .xor .u64 r52_0 (IntKind.wrap .u64 (s_2 + s_3))) 21).bind fun r57_0 =>
  (f141_bits_RotateLeft64 (IntKind.wrap .u64 ((IntKind.wrap .u64 (s_2 + s_3)) + (bits .xor .u64 r48_0 (IntKind.wrap .u64 (s_0 + s_1))))) 32).bind fun r58_0 =>
  some ((IntKind.wrap .u64 (r53_0 + (bits .xor .u64 r52_0 (IntKind.wrap .u64 (s_2 + s_3))))), (bits .xor .u64 r56_0 (IntKind.wrap .u64 ((IntKind.wrap .u64 (s_2 + s_3)) + (bits .xor .u64 r48_0 (IntKind.wrap .u64 (s_0 + s_1)))))), r58_0, (bits .xor .u64 r57_0 (IntKind.wrap .u64 (r53_0 + (bits .xor .u64 r52_0 (IntKind.wrap .u64 (s_2 + s_3)))))), s_4, s_5)
theorem f139_sip_state_round_ok (s_0 : Int) (s_1 : Int) (s_2 : Int) (s_3 : Int) (s_4 : Int) (s_5 : Int) (r : Int × Int × Int × Int × Int × Int) (h : f139_sip_state_round s_0 s_1 s_2 s_3 s_4 s_5 = some r) : FnOK Go.Proofs.Try.prog 139 (f139_sip_state_round_in s_0 s_1 s_2 s_3 s_4 s_5) (f139_sip_state_round_out r) := by
  unfold f139_sip_state_round at h
  refine At.fn (r := 0) Go.Proofs.Try.func139 rfl (by kernel_rfl) rfl rfl (by kernel_rfl) ?_
  show At Go.Proofs.Try.prog Go.Proofs.Try.f139 1 0 ⟨[(0, .one (.c (.ptr 0 0)))], [], [(0, [.d (.int .u64 s_0), .d (.int .u64 s_1), .d (.int .u64 s_2), .d (.int .u64 s_3), .d (.int .u64 s_4), .d (.int .i64 s_5)])], 1⟩ _
  refine At.step hm ht ⟨[], [], [], [2], [0]⟩ 1 ⟨[(2, .one (.c (.ptr 0 0)))], [], [(0, [.d (.int .u64 s_0), .d (.int .u64 s_1), .d (.int .u64 s_2), .d (.int .u64 s_3), .d (.int .u64 s_4), .d (.int .i64 s_5)])], 1⟩ [] (by kernel_rfl) trivial ?_
  refine At.step hm ht ⟨[], [], [], [2], [0]⟩ 2 ⟨[(2, .one (.c (.ptr 0 0)))], [], [(0, [.d (.int .u64 (IntKind.wrap .u64 (s_0 + s_1))), .d (.int .u64 s_1), .d (.int .u64 s_2), .d (.int .u64 s_3), .d (.int .u64 s_4), .d (.int .i64 s_5)])], 1⟩ [(0 : Int) ≤ (0 : Int) ∧ (0 : Int) < ((4 : Nat) : Int), (0 : Int) ≤ (1 : Int) ∧ (1 : Int) < ((4 : Nat) : Int), (0 : Int) ≤ (0 : Int) ∧ (0 : Int) < ((4 : Nat) : Int), 0 + 1 ≤ 6] (by kernel_rfl) ⟨(by decide), (by decide), (by decide), (by decide), trivial⟩ ?_
  refine At.step hm ht ⟨[], [], [], [2], [0]⟩ 3 ⟨[(2, .one (.c (.ptr 0 0)))], [], [(0, [.d (.int .u64 (IntKind.wrap .u64 (s_0 + s_1))), .d (.int .u64 s_1), .d (.int .u64 (IntKind.wrap .u64 (s_2 + s_3))), .d (.int .u64 s_3), .d (.int .u64 s_4), .d (.int .i64 s_5)])], 1⟩ [(0 : Int) ≤ (2 : Int) ∧ (2 : Int) < ((4 : Nat) : Int), (0 : Int) ≤ (3 : Int) ∧ (3 : Int) < ((4 : Nat) : Int), (0 : Int) ≤ (2 : Int) ∧ (2 : Int) < ((4 : Nat) : Int), 2 + 1 ≤ 6] (by kernel_rfl) ⟨(by decide), (by decide), (by decide), (by decide), trivial⟩ ?_
  obtain ⟨r48_0, cr48_0, h⟩ := bindS h
  refine At.step hm ht ⟨[(5, .call [] [] (f141_bits_RotateLeft64_out r48_0))], [], [], [2], [0]⟩ 4 ⟨[(2, .one (.c (.ptr 0 0)))], [], [(0, [.d (.int .u64 (IntKind.wrap .u64 (s_0 + s_1))), .d (.int .u64 (bits .xor .u64 r48_0 (IntKind.wrap .u64 (s_0 + s_1)))), .d (.int .u64 (IntKind.wrap .u64 (s_2 + s_3))), .d (.int .u64 s_3), .d (.int .u64 s_4), .d (.int .i64 s_5)])], 1⟩ [(0 : Int) ≤ (1 : Int) ∧ (1 : Int) < ((4 : Nat) : Int), FnOK Go.Proofs.Try.prog 141 (f141_bits_RotateLeft64_in s_1 13) (f141_bits_RotateLeft64_out r48_0), (0 : Int) ≤ (0 : Int) ∧ (0 : Int) < ((4 : Nat) : Int), (0 : Int) ≤ (1 : Int) ∧ (1 : Int) < ((4 : Nat) : Int), 1 + 1 ≤ 6] (by kernel_rfl) ⟨(by decide), (f141_bits_RotateLeft64_ok s_1 13 r48_0 cr48_0), (by decide), (by decide), (by decide), trivial⟩ ?_
  obtain ⟨r52_0, cr52_0, h⟩ := bindS h
  refine At.step hm ht ⟨[(5, .call [] [] (f141_bits_RotateLeft64_out r52_0))], [], [], [2], [0]⟩ 5 ⟨[(2, .one (.c (.ptr 0 0)))], [], [(0, [.d (.int .u64 (IntKind.wrap .u64 (s_0 + s_1))), .d (.int .u64 (bits .xor .u64 r48_0 (IntKind.wrap .u64 (s_0 + s_1)))), .d (.int .u64 (IntKind.wrap .u64 (s_2 + s_3))), .d (.int .u64 (bits .xor .u64 r52_0 (IntKind.wrap .u64 (s_2 + s_3)))), .d (.int .u64 s_4), .d (.int .i64 s_5)])], 1⟩ [(0 : Int) ≤ (3 : Int) ∧ (3 : Int) < ((4 : Nat) : Int), FnOK Go.Proofs.Try.prog 141 (f141_bits_RotateLeft64_in s_3 16) (f141_bits_RotateLeft64_out r52_0), (0 : Int) ≤ (2 : Int) ∧ (2 : Int) < ((4 : Nat) : Int), (0 : Int) ≤ (3 : Int) ∧ (3 : Int) < ((4 : Nat) : Int), 3 + 1 ≤ 6] (by kernel_rfl) ⟨(by decide), (f141_bits_RotateLeft64_ok s_3 16 r52_0 cr52_0), (by decide), (by decide), (by decide), trivial⟩ ?_
  obtain ⟨r53_0, cr53_0, h⟩ := bindS h
  refine At.step hm ht ⟨[(5, .call [] [] (f141_bits_RotateLeft64_out r53_0))], [], [], [2], [0]⟩ 6 ⟨[(2, .one (.c (.ptr 0 0)))], [], [(0, [.d (.int .u64 r53_0), .d (.int .u64 (bits .xor .u64 r48_0 (IntKind.wrap .u64 (s_0 + s_1)))), .d (.int .u64 (IntKind.wrap .u64 (s_2 + s_3))), .d (.int .u64 (bits .xor .u64 r52_0 (IntKind.wrap .u64 (s_2 + s_3)))), .d (.int .u64 s_4), .d (.int .i64 s_5)])], 1⟩ [(0 : Int) ≤ (0 : Int) ∧ (0 : Int) < ((4 : Nat) : Int), FnOK Go.Proofs.Try.prog 141 (f141_bits_RotateLeft64_in (IntKind.wrap .u64 (s_0 + s_1)) 32) (f141_bits_RotateLeft64_out r53_0), (0 : Int) ≤ (0 : Int) ∧ (0 : Int) < ((4 : Nat) : Int), 0 + 1 ≤ 6] (by kernel_rfl) ⟨(by decide), (f141_bits_RotateLeft64_ok (IntKind.wrap .u64 (s_0 + s_1)) 32 r53_0 cr53_0), (by decide), (by decide), trivial⟩ ?_
  refine At.step hm ht ⟨[], [], [], [2], [0]⟩ 7 ⟨[(2, .one (.c (.ptr 0 0)))], [], [(0, [.d (.int .u64 r53_0), .d (.int .u64 (bits .xor .u64 r48_0 (IntKind.wrap .u64 (s_0 + s_1)))), .d (.int .u64 (IntKind.wrap .u64 ((IntKind.wrap .u64 (s_2 + s_3)) + (bits .xor .u64 r48_0 (IntKind.wrap .u64 (s_0 + s_1)))))), .d (.int .u64 (bits .xor .u64 r52_0 (IntKind.wrap .u64 (s_2 + s_3)))), .d (.int .u64 s_4), .d (.int .i64 s_5)])], 1⟩ [(0 : Int) ≤ (2 : Int) ∧ (2 : Int) < ((4 : Nat) : Int), (0 : Int) ≤ (1 : Int) ∧ (1 : Int) < ((4 : Nat) : Int), (0 : Int) ≤ (2 : Int) ∧ (2 : Int) < ((4 : Nat) : Int), 2 + 1 ≤ 6] (by kernel_rfl) ⟨(by decide), (by decide), (by decide), (by decide), trivial⟩ ?_
  refine At.step hm ht ⟨[], [], [], [2], [0]⟩ 8 ⟨[(2, .one (.c (.ptr 0 0)))], [], [(0, [.d (.int .u64 (IntKind.wrap .u64 (r53_0 + (bits .xor .u64 r52_0 (IntKind.wrap .u64 (s_2 + s_3)))))), .d (.int .u64 (bits .xor .u64 r48_0 (IntKind.wrap .u64 (s_0 + s_1)))), .d (.int .u64 (IntKind.wrap .u64 ((IntKind.wrap .u64 (s_2 + s_3)) + (bits .xor .u64 r48_0 (IntKind.wrap .u64 (s_0 + s_1)))))), .d (.int .u64 (bits .xor .u64 r52_0 (IntKind.wrap .u64 (s_2 + s_3)))), .d (.int .u64 s_4), .d (.int .i64 s_5)])], 1⟩ [(0 : Int) ≤ (0 : Int) ∧ (0 : Int) < ((4 : Nat) : Int), (0 : Int) ≤ (3 : Int) ∧ (3 : Int) < ((4 : Nat) : Int), (0 : Int) ≤ (0 : Int) ∧ (0 : Int) < ((4 : Nat) : Int), 0 + 1 ≤ 6] (by kernel_rfl) ⟨(by decide), (by decide), (by decide), (by decide), trivial⟩ ?_
  obtain ⟨r56_0, cr56_0, h⟩ := bindS h
  refine At.step hm ht ⟨[(5, .call [] [] (f141_bits_RotateLeft64_out r56_0))], [], [], [2], [0]⟩ 9 ⟨[(2, .one (.c (.ptr 0 0)))], [], [(0, [.d (.int .u64 (IntKind.wrap .u64 (r53_0 + (bits .xor .u64 r52_0 (IntKind.wrap .u64 (s_2 + s_3)))))), .d (.int .u64 (bits .xor .u64 r56_0 (IntKind.wrap .u64 ((IntKind.wrap .u64 (s_2 + s_3)) + (bits .xor .u64 r48_0 (IntKind.wrap .u64 (s_0 + s_1))))))), .d (.int .u64 (IntKind.wrap .u64 ((IntKind.wrap .u64 (s_2 + s_3)) + (bits .xor .u64 r48_0 (IntKind.wrap .u64 (s_0 + s_1)))))), .d (.int .u64 (bits .xor .u64 r52_0 (IntKind.wrap .u64 (s_2 + s_3)))), .d (.int .u64 s_4), .d (.int .i64 s_5)])], 1⟩ [(0 : Int) ≤ (1 : Int) ∧ (1 : Int) < ((4 : Nat) : Int), FnOK Go.Proofs.Try.prog 141 (f141_bits_RotateLeft64_in (bits .xor .u64 r48_0 (IntKind.wrap .u64 (s_0 + s_1))) 17) (f141_bits_RotateLeft64_out r56_0), (0 : Int) ≤ (2 : Int) ∧ (2 : Int) < ((4 : Nat) : Int), (0 : Int) ≤ (1 : Int) ∧ (1 : Int) < ((4 : Nat) : Int), 1 + 1 ≤ 6] (by kernel_rfl) ⟨(by decide), (f141_bits_RotateLeft64_ok (bits .xor .u64 r48_0 (IntKind.wrap .u64 (s_0 + s_1))) 17 r56_0 cr56_0), (by decide), (by decide), (by decide), trivial⟩ ?_
  obtain ⟨r57_0, cr57_0, h⟩ := bindS h
  refine At.step hm ht ⟨[(5, .call [] [] (f141_bits_RotateLeft64_out r57_0))], [], [], [2], [0]⟩ 10 ⟨[(2, .one (.c (.ptr 0 0)))], [], [(0, [.d (.int .u64 (IntKind.wrap .u64 (r53_0 + (bits .xor .u64 r52_0 (IntKind.wrap .u64 (s_2 + s_3)))))), .d (.int .u64 (bits .xor .u64 r56_0 (IntKind.wrap .u64 ((IntKind.wrap .u64 (s_2 + s_3)) + (bits .xor .u64 r48_0 (IntKind.wrap .u64 (s_0 + s_1))))))), .d (.int .u64 (IntKind.wrap .u64 ((IntKind.wrap .u64 (s_2 + s_3)) + (bits .xor .u64 r48_0 (IntKind.wrap .u64 (s_0 + s_1)))))), .d (.int .u64 (bits .xor .u64 r57_0 (IntKind.wrap .u64 (r53_0 + (bits .xor .u64 r52_0 (IntKind.wrap .u64 (s_2 + s_3))))))), .d (.int .u64 s_4), .d (.int .i64 s_5)])], 1⟩ [(0 : Int) ≤ (3 : Int) ∧ (3 : Int) < ((4 : Nat) : Int), FnOK Go.Proofs.Try.prog 141 (f141_bits_RotateLeft64_in (bits .xor .u64 r52_0 (IntKind.wrap .u64 (s_2 + s_3))) 21) (f141_bits_RotateLeft64_out r57_0), (0 : Int) ≤ (0 : Int) ∧ (0 : Int) < ((4 : Nat) : Int), (0 : Int) ≤ (3 : Int) ∧ (3 : Int) < ((4 : Nat) : Int), 3 + 1 ≤ 6] (by kernel_rfl) ⟨(by decide), (f141_bits_RotateLeft64_ok (bits .xor .u64 r52_0 (IntKind.wrap .u64 (s_2 + s_3))) 21 r57_0 cr57_0), (by decide), (by decide), (by decide), trivial⟩ ?_
  obtain ⟨r58_0, cr58_0, h⟩ := bindS h
  have h := Option.some.inj h
  subst h
  exact At.fin hm ht ⟨[(5, .call [] [] (f141_bits_RotateLeft64_out r58_0))], [], [], [], [0]⟩ [(0 : Int) ≤ (2 : Int) ∧ (2 : Int) < ((4 : Nat) : Int), FnOK Go.Proofs.Try.prog 141 (f141_bits_RotateLeft64_in (IntKind.wrap .u64 ((IntKind.wrap .u64 (s_2 + s_3)) + (bits .xor .u64 r48_0 (IntKind.wrap .u64 (s_0 + s_1))))) 32) (f141_bits_RotateLeft64_out r58_0), (0 : Int) ≤ (2 : Int) ∧ (2 : Int) < ((4 : Nat) : Int), 2 + 1 ≤ 6] (by kernel_rfl) ⟨(by decide), (f141_bits_RotateLeft64_ok (IntKind.wrap .u64 ((IntKind.wrap .u64 (s_2 + s_3)) + (bits .xor .u64 r48_0 (IntKind.wrap .u64 (s_0 + s_1))))) 32 r58_0 cr58_0), (by decide), (by decide), trivial⟩
/-! (*brougham/sip.state).take -/
def f138_sip_state_take_in (m : Int) (s_0 : Int) (s_1 : Int) (s_2 : Int) (s_3 : Int) (s_4 : Int) (s_5 : Int) : Inn := ⟨[.c (.ptr 0 0), .c (.d (.int .u64 m))], [], [(0, [.d (.int .u64 s_0), .d (.int .u64 s_1), .d (.int .u64 s_2), .d (.int .u64 s_3), .d (.int .u64 s_4), .d (.int .i64 s_5)])], 1⟩
def f138_sip_state_take_out (r : Int × Int × Int × Int × Int × Int) : Out := ⟨.tup [], [], [(0, [.d (.int .u64 r.1), .d (.int .u64 r.2.1), .d (.int .u64 r.2.2.1), .d (.int .u64 r.2.2.2.1), .d (.int .u64 r.2.2.2.2.1), .d (.int .i64 r.2.2.2.2.2)])], 1⟩
def f138_sip_state_take (m : Int) (s_0 : Int) (s_1 : Int) (s_2 : Int) (s_3 : Int) (s_4 : Int) (s_5 : Int) : Option (Int × Int × Int × Int × Int × Int) :=
  (f139_sip_state_round s_0 s_1 s_2 (bits .xor .u64 s_3 m) s_4 s_5).bind fun r44_0 =>
  (f139_sip_state_round r44_0.1 r44_0.2.1 r44_0.2.2.1 r44_0.2.2.2.1 r44_0.2.2.2.2.1 r44_0.2.2.2.2.2).bind fun r59_0 =>
  some ((bits .xor .u64 r59_0.1 m), r59_0.2.1, r59_0.2.2.1, r59_0.2.2.2.1, r59_0.2.2.2.2.1, r59_0.2.2.2.2.2)
theorem f138_sip_state_take_ok (m : Int) (s_0 : Int) (s_1 : Int) (s_2 : Int) (s_3 : Int) (s_4 : Int) (s_5 : Int) (r : Int × Int × Int × Int × Int × Int) (h : f138_sip_state_take m s_0 s_1 s_2 s_3 s_4 s_5 = some r) : FnOK Go.Proofs.Try.prog 138 (f138_sip_state_take_in m s_0 s_1 s_2 s_3 s_4 s_5) (f138_sip_state_take_out r) := by
  unfold f138_sip_state_take at h
  refine At.fn (r := 0) Go.Proofs.Try.func138 rfl (by kernel_rfl) rfl rfl (by kernel_rfl) ?_
  show At Go.Proofs.Try.prog Go.Proofs.Try.f138 1 0 ⟨[(0, .one (.c (.ptr 0 0))), (1, .one (.c (.d (.int .u64 m))))], [], [(0, [.d (.int .u64 s_0), .d (.int .u64 s_1), .d (.int .u64 s_2), .d (.int .u64 s_3), .d (.int .u64 s_4), .d (.int .i64 s_5)])], 1⟩ _
  refine At.step hm ht ⟨[], [], [], [0, 1], [0]⟩ 1 ⟨[(0, .one (.c (.ptr 0 0))), (1, .one (.c (.d (.int .u64 m))))], [], [(0, [.d (.int .u64 s_0), .d (.int .u64 s_1), .d (.int .u64 s_2), .d (.int .u64 (bits .xor .u64 s_3 m)), .d (.int .u64 s_4), .d (.int .i64 s_5)])], 1⟩ [(0 : Int) ≤ (3 : Int) ∧ (3 : Int) < ((4 : Nat) : Int), (0 : Int) ≤ (3 : Int) ∧ (3 : Int) < ((4 : Nat) : Int), 3 + 1 ≤ 6] (by kernel_rfl) ⟨(by decide), (by decide), (by decide), trivial⟩ ?_
  obtain ⟨r44_0, cr44_0, h⟩ := bindS h
  refine At.step hm ht ⟨[(1, .call [0] [] (f139_sip_state_round_out r44_0))], [], [], [0, 1], [0]⟩ 2 ⟨[(0, .one (.c (.ptr 0 0))), (1, .one (.c (.d (.int .u64 m))))], [], [(0, [.d (.int .u64 r44_0.1), .d (.int .u64 r44_0.2.1), .d (.int .u64 r44_0.2.2.1), .d (.int .u64 r44_0.2.2.2.1), .d (.int .u64 r44_0.2.2.2.2.1), .d (.int .i64 r44_0.2.2.2.2.2)])], 1⟩ [FnOK Go.Proofs.Try.prog 139 (f139_sip_state_round_in s_0 s_1 s_2 (bits .xor .u64 s_3 m) s_4 s_5) (f139_sip_state_round_out r44_0)] (by kernel_rfl) ⟨(f139_sip_state_round_ok s_0 s_1 s_2 (bits .xor .u64 s_3 m) s_4 s_5 r44_0 cr44_0), trivial⟩ ?_
  obtain ⟨r59_0, cr59_0, h⟩ := bindS h
  refine At.step hm ht ⟨[(1, .call [0] [] (f139_sip_state_round_out r59_0))], [], [], [0, 1], [0]⟩ 3 ⟨[(0, .one (.c (.ptr 0 0))), (1, .one (.c (.d (.int .u64 m))))], [], [(0, [.d (.int .u64 r59_0.1), .d (.int .u64 r59_0.2.1), .d (.int .u64 r59_0.2.2.1), .d (.int .u64 r59_0.2.2.2.1), .d (.int .u64 r59_0.2.2.2.2.1), .d (.int .i64 r59_0.2.2.2.2.2)])], 1⟩ [FnOK Go.Proofs.Try.prog 139 (f139_sip_state_round_in r44_0.1 r44_0.2.1 r44_0.2.2.1 r44_0.2.2.2.1 r44_0.2.2.2.2.1 r44_0.2.2.2.2.2) (f139_sip_state_round_out r59_0)] (by kernel_rfl) ⟨(f139_sip_state_round_ok r44_0.1 r44_0.2.1 r44_0.2.2.1 r44_0.2.2.2.1 r44_0.2.2.2.2.1 r44_0.2.2.2.2.2 r59_0 cr59_0), trivial⟩ ?_
  have h := Option.some.inj h
  subst h
  exact At.fin hm ht ⟨[], [], [], [], [0]⟩ [(0 : Int) ≤ (0 : Int) ∧ (0 : Int) < ((4 : Nat) : Int), (0 : Int) ≤ (0 : Int) ∧ (0 : Int) < ((4 : Nat) : Int), 0 + 1 ≤ 6] (by kernel_rfl) ⟨(by decide), (by decide), (by decide), trivial⟩
/-! (*brougham/sip.state).byte -/
def f117_sip_state_byte_in (c : Int) (s_0 : Int) (s_1 : Int) (s_2 : Int) (s_3 : Int) (s_4 : Int) (s_5 : Int) : Inn := ⟨[.c (.ptr 0 0), .c (.d (.int .u8 c))], [], [(0, [.d (.int .u64 s_0), .d (.int .u64 s_1), .d (.int .u64 s_2), .d (.int .u64 s_3), .d (.int .u64 s_4), .d (.int .i64 s_5)])], 1⟩
def f117_sip_state_byte_out (r : Int × Int × Int × Int × Int × Int) : Out := ⟨.tup [], [], [(0, [.d (.int .u64 r.1), .d (.int .u64 r.2.1), .d (.int .u64 r.2.2.1), .d (.int .u64 r.2.2.2.1), .d (.int .u64 r.2.2.2.2.1), .d (.int .i64 r.2.2.2.2.2)])], 1⟩
def f117_sip_state_byte (c : Int) (s_0 : Int) (s_1 : Int) (s_2 : Int) (s_3 : Int) (s_4 : Int) (s_5 : Int) : Option (Int × Int × Int × Int × Int × Int) :=
  if (0 : Int) ≤ (IntKind.wrap .i64 (8 * (Int.tmod s_5 8))) then
  if (((Int.tmod (IntKind.wrap .i64 (s_5 + 1)) 8) : Int) == 0) = true then
    (f138_sip_state_take (bits .or .u64 s_4 (IntKind.wrap .u64 ((IntKind.wrap .u64 c) * 2 ^ (min (IntKind.wrap .i64 (8 * (Int.tmod s_5 8))).toNat (IntKind.bits .u64))))) s_0 s_1 s_2 s_3 (bits .or .u64 s_4 (IntKind.wrap .u64 ((IntKind.wrap .u64 c) * 2 ^ (min (IntKind.wrap .i64 (8 * (Int.tmod s_5 8))).toNat (IntKind.bits .u64))))) (IntKind.wrap .i64 (s_5 + 1))).bind fun r42_0 =>
    some (r42_0.1, r42_0.2.1, r42_0.2.2.1, r42_0.2.2.2.1, 0, r42_0.2.2.2.2.2)
  else
    some (s_0, s_1, s_2, s_3, (bits .or .u64 s_4 (IntKind.wrap .u64 ((IntKind.wrap .u64 c) * 2 ^ (min (IntKind.wrap .i64 (8 * (Int.tmod s_5 8))).toNat (IntKind.bits .u64))))), (IntKind.wrap .i64 (s_5 + 1)))
  else none
theorem f117_sip_state_byte_ok (c : Int) (s_0 : Int) (s_1 : Int) (s_2 : Int) (s_3 : Int) (s_4 : Int) (s_5 : Int) (r : Int × Int × Int × Int × Int × Int) (h : f117_sip_state_byte c s_0 s_1 s_2 s_3 s_4 s_5 = some r) : FnOK Go.Proofs.Try.prog 117 (f117_sip_state_byte_in c s_0 s_1 s_2 s_3 s_4 s_5) (f117_sip_state_byte_out r) := by
  unfold f117_sip_state_byte at h
  refine At.fn (r := 0) Go.Proofs.Try.func117 rfl (by kernel_rfl) rfl rfl (by kernel_rfl) ?_
  show At Go.Proofs.Try.prog Go.Proofs.Try.f117 1 0 ⟨[(0, .one (.c (.ptr 0 0))), (1, .one (.c (.d (.int .u8 c))))], [], [(0, [.d (.int .u64 s_0), .d (.int .u64 s_1), .d (.int .u64 s_2), .d (.int .u64 s_3), .d (.int .u64 s_4), .d (.int .i64 s_5)])], 1⟩ _
  obtain ⟨g39_0, h⟩ := ifS h
  refine At.step hm ht ⟨[], [], [], [0], [0]⟩ 1 ⟨[(0, .one (.c (.ptr 0 0)))], [], [(0, [.d (.int .u64 s_0), .d (.int .u64 s_1), .d (.int .u64 s_2), .d (.int .u64 s_3), .d (.int .u64 (bits .or .u64 s_4 (IntKind.wrap .u64 ((IntKind.wrap .u64 c) * 2 ^ (min (IntKind.wrap .i64 (8 * (Int.tmod s_5 8))).toNat (IntKind.bits .u64)))))), .d (.int .i64 s_5)])], 1⟩ [(8 : Int) ≠ 0, (0 : Int) ≤ (IntKind.wrap .i64 (8 * (Int.tmod s_5 8))), 4 + 1 ≤ 6] (by kernel_rfl) ⟨(by decide), g39_0, (by decide), trivial⟩ ?_
  refine At.step hm ht ⟨[], [], [], [0], [0]⟩ 2 ⟨[(0, .one (.c (.ptr 0 0)))], [], [(0, [.d (.int .u64 s_0), .d (.int .u64 s_1), .d (.int .u64 s_2), .d (.int .u64 s_3), .d (.int .u64 (bits .or .u64 s_4 (IntKind.wrap .u64 ((IntKind.wrap .u64 c) * 2 ^ (min (IntKind.wrap .i64 (8 * (Int.tmod s_5 8))).toNat (IntKind.bits .u64)))))), .d (.int .i64 (IntKind.wrap .i64 (s_5 + 1)))])], 1⟩ [5 + 1 ≤ 6] (by kernel_rfl) ⟨(by decide), trivial⟩ ?_
  rcases iteS h with ⟨b41_e0, h⟩ | ⟨b41_e0, h⟩
  · refine At.step hm ht ⟨[], [true], [], [0], [0]⟩ 3 ⟨[(0, .one (.c (.ptr 0 0)))], [], [(0, [.d (.int .u64 s_0), .d (.int .u64 s_1), .d (.int .u64 s_2), .d (.int .u64 s_3), .d (.int .u64 (bits .or .u64 s_4 (IntKind.wrap .u64 ((IntKind.wrap .u64 c) * 2 ^ (min (IntKind.wrap .i64 (8 * (Int.tmod s_5 8))).toNat (IntKind.bits .u64)))))), .d (.int .i64 (IntKind.wrap .i64 (s_5 + 1)))])], 1⟩ [(8 : Int) ≠ 0, (((Int.tmod (IntKind.wrap .i64 (s_5 + 1)) 8) : Int) == 0) = true] (by kernel_rfl) ⟨(by decide), b41_e0, trivial⟩ ?_
    obtain ⟨r42_0, cr42_0, h⟩ := bindS h
    refine At.step hm ht ⟨[(5, .call [0] [] (f138_sip_state_take_out r42_0))], [], [], [0], [0]⟩ 4 ⟨[(0, .one (.c (.ptr 0 0)))], [], [(0, [.d (.int .u64 r42_0.1), .d (.int .u64 r42_0.2.1), .d (.int .u64 r42_0.2.2.1), .d (.int .u64 r42_0.2.2.2.1), .d (.int .u64 r42_0.2.2.2.2.1), .d (.int .i64 r42_0.2.2.2.2.2)])], 1⟩ [FnOK Go.Proofs.Try.prog 138 (f138_sip_state_take_in (bits .or .u64 s_4 (IntKind.wrap .u64 ((IntKind.wrap .u64 c) * 2 ^ (min (IntKind.wrap .i64 (8 * (Int.tmod s_5 8))).toNat (IntKind.bits .u64))))) s_0 s_1 s_2 s_3 (bits .or .u64 s_4 (IntKind.wrap .u64 ((IntKind.wrap .u64 c) * 2 ^ (min (IntKind.wrap .i64 (8 * (Int.tmod s_5 8))).toNat (IntKind.bits .u64))))) (IntKind.wrap .i64 (s_5 + 1))) (f138_sip_state_take_out r42_0)] (by kernel_rfl) ⟨(f138_sip_state_take_ok (bits .or .u64 s_4 (IntKind.wrap .u64 ((IntKind.wrap .u64 c) * 2 ^ (min (IntKind.wrap .i64 (8 * (Int.tmod s_5 8))).toNat (IntKind.bits .u64))))) s_0 s_1 s_2 s_3 (bits .or .u64 s_4 (IntKind.wrap .u64 ((IntKind.wrap .u64 c) * 2 ^ (min (IntKind.wrap .i64 (8 * (Int.tmod s_5 8))).toNat (IntKind.bits .u64))))) (IntKind.wrap .i64 (s_5 + 1)) r42_0 cr42_0), trivial⟩ ?_
    have h := Option.some.inj h
    subst h
    exact At.fin hm ht ⟨[], [], [], [], [0]⟩ [4 + 1 ≤ 6] (by kernel_rfl) ⟨(by decide), trivial⟩
  · have h := Option.some.inj h
    subst h
    exact At.fin hm ht ⟨[], [false], [], [], [0]⟩ [(8 : Int) ≠ 0, (((Int.tmod (IntKind.wrap .i64 (s_5 + 1)) 8) : Int) == 0) = false] (by kernel_rfl) ⟨(by decide), b41_e0, trivial⟩
/-! (*brougham/sip.state).end -/
def f118_sip_state_end_in (s_0 : Int) (s_1 : Int) (s_2 : Int) (s_3 : Int) (s_4 : Int) (s_5 : Int) : Inn := ⟨[.c (.ptr 0 0)], [], [(0, [.d (.int .u64 s_0), .d (.int .u64 s_1), .d (.int .u64 s_2), .d (.int .u64 s_3), .d (.int .u64 s_4), .d (.int .i64 s_5)])], 1⟩
def f118_sip_state_end_out (r : Int × Int × Int × Int × Int × Int × Int) : Out := ⟨.one (.c (.d (.int .u64 r.1))), [], [(0, [.d (.int .u64 r.2.1), .d (.int .u64 r.2.2.1), .d (.int .u64 r.2.2.2.1), .d (.int .u64 r.2.2.2.2.1), .d (.int .u64 r.2.2.2.2.2.1), .d (.int .i64 r.2.2.2.2.2.2)])], 1⟩
def f118_sip_state_end_L4 : Nat → Int → Int → Int → Int → Int → Int → Int → Option (Int × Int × Int × Int × Int × Int)
  | 0, _, _, _, _, _, _, _ => none
  | n + 1, t26, s_0, s_1, s_2, s_3, s_4, s_5 =>
    if (decide ((t26 : Int) < 4)) = true then
      (f139_sip_state_round s_0 s_1 s_2 s_3 s_4 s_5).bind fun r74_0 =>
      f118_sip_state_end_L4 n (IntKind.wrap .i64 (t26 + 1)) r74_0.1 r74_0.2.1 r74_0.2.2.1 r74_0.2.2.2.1 r74_0.2.2.2.2.1 r74_0.2.2.2.2.2
    else
      some ((s_0, s_1, s_2, s_3, s_4, s_5))
def f118_sip_state_end_L4_k (e : Int × Int × Int × Int × Int × Int) (o : Out) : Prop := At Go.Proofs.Try.prog Go.Proofs.Try.f118 1 7 ⟨[(0, .one (.c (.ptr 0 0)))], [], [(0, [.d (.int .u64 e.1), .d (.int .u64 e.2.1), .d (.int .u64 e.2.2.1), .d (.int .u64 e.2.2.2.1), .d (.int .u64 e.2.2.2.2.1), .d (.int .i64 e.2.2.2.2.2)])], 1⟩ o
theorem f118_sip_state_end_L4_ok (n : Nat) : ∀ (t26 : Int) (s_0 : Int) (s_1 : Int) (s_2 : Int) (s_3 : Int) (s_4 : Int) (s_5 : Int) (w : Int × Int × Int × Int × Int × Int) (h : f118_sip_state_end_L4 n t26 s_0 s_1 s_2 s_3 s_4 s_5 = some w) (o : Out) (hk : f118_sip_state_end_L4_k w o), At Go.Proofs.Try.prog Go.Proofs.Try.f118 1 4 ⟨[(0, .one (.c (.ptr 0 0))), (26, .one (.c (.d (.int .i64 t26))))], [], [(0, [.d (.int .u64 s_0), .d (.int .u64 s_1), .d (.int .u64 s_2), .d (.int .u64 s_3), .d (.int .u64 s_4), .d (.int .i64 s_5)])], 1⟩ o := by
  induction n with
  | zero => intro t26 s_0 s_1 s_2 s_3 s_4 s_5 w h; rw [f118_sip_state_end_L4] at h; cases h
  | succ n ih =>
    intro t26 s_0 s_1 s_2 s_3 s_4 s_5 w h o hk
    rw [f118_sip_state_end_L4] at h
    rcases iteS h with ⟨b73_e0, h⟩ | ⟨b73_e0, h⟩
    · refine At.step hm ht ⟨[], [true], [], [0, 26], [0]⟩ 5 ⟨[(0, .one (.c (.ptr 0 0))), (26, .one (.c (.d (.int .i64 t26))))], [], [(0, [.d (.int .u64 s_0), .d (.int .u64 s_1), .d (.int .u64 s_2), .d (.int .u64 s_3), .d (.int .u64 s_4), .d (.int .i64 s_5)])], 1⟩ [(decide ((t26 : Int) < 4)) = true] (by kernel_rfl) ⟨b73_e0, trivial⟩ ?_
      obtain ⟨r74_0, cr74_0, h⟩ := bindS h
      refine At.step hm ht ⟨[(1, .call [0] [] (f139_sip_state_round_out r74_0))], [], [], [0, 26], [0]⟩ 6 ⟨[(0, .one (.c (.ptr 0 0))), (26, .one (.c (.d (.int .i64 t26))))], [], [(0, [.d (.int .u64 r74_0.1), .d (.int .u64 r74_0.2.1), .d (.int .u64 r74_0.2.2.1), .d (.int .u64 r74_0.2.2.2.1), .d (.int .u64 r74_0.2.2.2.2.1), .d (.int .i64 r74_0.2.2.2.2.2)])], 1⟩ [FnOK Go.Proofs.Try.prog 139 (f139_sip_state_round_in s_0 s_1 s_2 s_3 s_4 s_5) (f139_sip_state_round_out r74_0)] (by kernel_rfl) ⟨(f139_sip_state_round_ok s_0 s_1 s_2 s_3 s_4 s_5 r74_0 cr74_0), trivial⟩ ?_
      refine At.step hm ht ⟨[], [], [], [0, 26], [0]⟩ 4 ⟨[(0, .one (.c (.ptr 0 0))), (26, .one (.c (.d (.int .i64 (IntKind.wrap .i64 (t26 + 1))))))], [], [(0, [.d (.int .u64 r74_0.1), .d (.int .u64 r74_0.2.1), .d (.int .u64 r74_0.2.2.1), .d (.int .u64 r74_0.2.2.2.1), .d (.int .u64 r74_0.2.2.2.2.1), .d (.int .i64 r74_0.2.2.2.2.2)])], 1⟩ [] (by kernel_rfl) trivial ?_
      exact ih (IntKind.wrap .i64 (t26 + 1)) r74_0.1 r74_0.2.1 r74_0.2.2.1 r74_0.2.2.2.1 r74_0.2.2.2.2.1 r74_0.2.2.2.2.2 w h o hk
    · refine At.step hm ht ⟨[], [false], [], [0], [0]⟩ 7 ⟨[(0, .one (.c (.ptr 0 0)))], [], [(0, [.d (.int .u64 s_0), .d (.int .u64 s_1), .d (.int .u64 s_2), .d (.int .u64 s_3), .d (.int .u64 s_4), .d (.int .i64 s_5)])], 1⟩ [(decide ((t26 : Int) < 4)) = false] (by kernel_rfl) ⟨b73_e0, trivial⟩ ?_
      have h := Option.some.inj h
      subst h
      exact hk
def f118_sip_state_end (n : Nat) (s_0 : Int) (s_1 : Int) (s_2 : Int) (s_3 : Int) (s_4 : Int) (s_5 : Int) : Option (Int × Int × Int × Int × Int × Int × Int) :=
  (f138_sip_state_take (bits .or .u64 s_4 (IntKind.wrap .u64 ((IntKind.wrap .u64 (IntKind.wrap .u8 s_5)) * 2 ^ 56))) s_0 s_1 s_2 s_3 s_4 s_5).bind fun r70_0 =>
  (f118_sip_state_end_L4 n 0 r70_0.1 r70_0.2.1 (bits .xor .u64 r70_0.2.2.1 255) r70_0.2.2.2.1 r70_0.2.2.2.2.1 r70_0.2.2.2.2.2).bind fun w76 =>
  some ((bits .xor .u64 (bits .xor .u64 (bits .xor .u64 w76.1 w76.2.1) w76.2.2.1) w76.2.2.2.1), w76.1, w76.2.1, w76.2.2.1, w76.2.2.2.1, w76.2.2.2.2.1, w76.2.2.2.2.2)
theorem f118_sip_state_end_ok (n : Nat) (s_0 : Int) (s_1 : Int) (s_2 : Int) (s_3 : Int) (s_4 : Int) (s_5 : Int) (r : Int × Int × Int × Int × Int × Int × Int) (h : f118_sip_state_end n s_0 s_1 s_2 s_3 s_4 s_5 = some r) : FnOK Go.Proofs.Try.prog 118 (f118_sip_state_end_in s_0 s_1 s_2 s_3 s_4 s_5) (f118_sip_state_end_out r) := by
  unfold f118_sip_state_end at h
  refine At.fn (r := 0) Go.Proofs.Try.func118 rfl (by kernel_rfl) rfl rfl (by kernel_rfl) ?_
  show At Go.Proofs.Try.prog Go.Proofs.Try.f118 1 0 ⟨[(0, .one (.c (.ptr 0 0)))], [], [(0, [.d (.int .u64 s_0), .d (.int .u64 s_1), .d (.int .u64 s_2), .d (.int .u64 s_3), .d (.int .u64 s_4), .d (.int .i64 s_5)])], 1⟩ _
  refine At.step hm ht ⟨[], [], [], [0], [0]⟩ 1 ⟨[(0, .one (.c (.ptr 0 0)))], [], [(0, [.d (.int .u64 s_0), .d (.int .u64 s_1), .d (.int .u64 s_2), .d (.int .u64 s_3), .d (.int .u64 s_4), .d (.int .i64 s_5)])], 1⟩ [] (by kernel_rfl) trivial ?_
  obtain ⟨r70_0, cr70_0, h⟩ := bindS h
  refine At.step hm ht ⟨[(13, .call [0] [] (f138_sip_state_take_out r70_0))], [], [], [0], [0]⟩ 2 ⟨[(0, .one (.c (.ptr 0 0)))], [], [(0, [.d (.int .u64 r70_0.1), .d (.int .u64 r70_0.2.1), .d (.int .u64 r70_0.2.2.1), .d (.int .u64 r70_0.2.2.2.1), .d (.int .u64 r70_0.2.2.2.2.1), .d (.int .i64 r70_0.2.2.2.2.2)])], 1⟩ [(0 : Int) ≤ 56, FnOK Go.Proofs.Try.prog 138 (f138_sip_state_take_in (bits .or .u64 s_4 (IntKind.wrap .u64 ((IntKind.wrap .u64 (IntKind.wrap .u8 s_5)) * 2 ^ 56))) s_0 s_1 s_2 s_3 s_4 s_5) (f138_sip_state_take_out r70_0)] (by kernel_rfl) ⟨(by decide), (f138_sip_state_take_ok (bits .or .u64 s_4 (IntKind.wrap .u64 ((IntKind.wrap .u64 (IntKind.wrap .u8 s_5)) * 2 ^ 56))) s_0 s_1 s_2 s_3 s_4 s_5 r70_0 cr70_0), trivial⟩ ?_
  refine At.step hm ht ⟨[], [], [], [0], [0]⟩ 3 ⟨[(0, .one (.c (.ptr 0 0)))], [], [(0, [.d (.int .u64 r70_0.1), .d (.int .u64 r70_0.2.1), .d (.int .u64 (bits .xor .u64 r70_0.2.2.1 255)), .d (.int .u64 r70_0.2.2.2.1), .d (.int .u64 r70_0.2.2.2.2.1), .d (.int .i64 r70_0.2.2.2.2.2)])], 1⟩ [(0 : Int) ≤ (2 : Int) ∧ (2 : Int) < ((4 : Nat) : Int), (0 : Int) ≤ (2 : Int) ∧ (2 : Int) < ((4 : Nat) : Int), 2 + 1 ≤ 6] (by kernel_rfl) ⟨(by decide), (by decide), (by decide), trivial⟩ ?_
  refine At.step hm ht ⟨[], [], [], [0, 26], [0]⟩ 4 ⟨[(0, .one (.c (.ptr 0 0))), (26, .one (.c (.d (.int .i64 0))))], [], [(0, [.d (.int .u64 r70_0.1), .d (.int .u64 r70_0.2.1), .d (.int .u64 (bits .xor .u64 r70_0.2.2.1 255)), .d (.int .u64 r70_0.2.2.2.1), .d (.int .u64 r70_0.2.2.2.2.1), .d (.int .i64 r70_0.2.2.2.2.2)])], 1⟩ [] (by kernel_rfl) trivial ?_
  obtain ⟨w76, cw76, h⟩ := bindS h
  refine f118_sip_state_end_L4_ok n 0 r70_0.1 r70_0.2.1 (bits .xor .u64 r70_0.2.2.1 255) r70_0.2.2.2.1 r70_0.2.2.2.2.1 r70_0.2.2.2.2.2 w76 cw76 _ ?_
  show At Go.Proofs.Try.prog Go.Proofs.Try.f118 1 7 ⟨[(0, .one (.c (.ptr 0 0)))], [], [(0, [.d (.int .u64 w76.1), .d (.int .u64 w76.2.1), .d (.int .u64 w76.2.2.1), .d (.int .u64 w76.2.2.2.1), .d (.int .u64 w76.2.2.2.2.1), .d (.int .i64 w76.2.2.2.2.2)])], 1⟩ _
  have h := Option.some.inj h
  subst h
  exact At.fin hm ht ⟨[], [], [], [2], [0]⟩ [(0 : Int) ≤ (0 : Int) ∧ (0 : Int) < ((4 : Nat) : Int), (0 : Int) ≤ (1 : Int) ∧ (1 : Int) < ((4 : Nat) : Int), (0 : Int) ≤ (2 : Int) ∧ (2 : Int) < ((4 : Nat) : Int), (0 : Int) ≤ (3 : Int) ∧ (3 : Int) < ((4 : Nat) : Int)] (by kernel_rfl) ⟨(by decide), (by decide), (by decide), (by decide), trivial⟩
/-! brougham/sip.Sum -/
def f80_sip_Sum_in (k_0 : Int) (k_1 : Int) (parts : List (List Int)) : Inn := ⟨[.agg [.d (.int .u64 k_0), .d (.int .u64 k_1)], .c (.d (.sl (.slice (.int .u8)) parts))], [], [], 0⟩
def f80_sip_Sum_out (r : Int) : Out := ⟨.one (.c (.d (.int .u64 r))), [], [], 0⟩
def f80_sip_Sum_L6 : Nat → (List (List Int)) → Int → Int → (List Int) → Int → Int → Int → Int → Int → Int → Int → Int → Option (List (List Int) × Int × Int × Int × Int × Int × Int × Int × Int)
  | 0, _, _, _, _, _, _, _, _, _, _, _, _ => none
  | n + 1, t12, t13, t14, t18, t19, t20, s_0, s_1, s_2, s_3, s_4, s_5 =>
    if (decide ((t20 : Int) < t19)) = true then
      if (0 : Int) ≤ t20 ∧ t20 < (((t18).length : Nat) : Int) then
      (f117_sip_state_byte (t18.getD t20.toNat 0) s_0 s_1 s_2 s_3 s_4 s_5).bind fun r38_0 =>
      f80_sip_Sum_L6 n t12 t13 t14 t18 t19 (IntKind.wrap .i64 (t20 + 1)) r38_0.1 r38_0.2.1 r38_0.2.2.1 r38_0.2.2.2.1 r38_0.2.2.2.2.1 r38_0.2.2.2.2.2
      else none
    else
      some ((t12, t13, t14, s_0, s_1, s_2, s_3, s_4, s_5))
def f80_sip_Sum_L6_k (e : List (List Int) × Int × Int × Int × Int × Int × Int × Int × Int) (o : Out) : Prop := At Go.Proofs.Try.prog Go.Proofs.Try.f80 0 10 ⟨[(5, .one (.c (.ptr 0 0))), (12, .one (.c (.d (.sl (.slice (.int .u8)) e.1)))), (13, .one (.c (.d (.int .i64 e.2.1)))), (14, .one (.c (.d (.int .i64 e.2.2.1))))], [], [(0, [.d (.int .u64 e.2.2.2.1), .d (.int .u64 e.2.2.2.2.1), .d (.int .u64 e.2.2.2.2.2.1), .d (.int .u64 e.2.2.2.2.2.2.1), .d (.int .u64 e.2.2.2.2.2.2.2.1), .d (.int .i64 e.2.2.2.2.2.2.2.2)])], 1⟩ o
theorem f80_sip_Sum_L6_ok (n : Nat) : ∀ (t12 : List (List Int)) (t13 : Int) (t14 : Int) (t18 : List Int) (t19 : Int) (t20 : Int) (s_0 : Int) (s_1 : Int) (s_2 : Int) (s_3 : Int) (s_4 : Int) (s_5 : Int) (w : List (List Int) × Int × Int × Int × Int × Int × Int × Int × Int) (h : f80_sip_Sum_L6 n t12 t13 t14 t18 t19 t20 s_0 s_1 s_2 s_3 s_4 s_5 = some w) (o : Out) (hk : f80_sip_Sum_L6_k w o), At Go.Proofs.Try.prog Go.Proofs.Try.f80 0 6 ⟨[(5, .one (.c (.ptr 0 0))), (12, .one (.c (.d (.sl (.slice (.int .u8)) t12)))), (13, .one (.c (.d (.int .i64 t13)))), (14, .one (.c (.d (.int .i64 t14)))), (18, .one (.c (.d (.sl (.int .u8) t18)))), (19, .one (.c (.d (.int .i64 t19)))), (20, .one (.c (.d (.int .i64 t20))))], [], [(0, [.d (.int .u64 s_0), .d (.int .u64 s_1), .d (.int .u64 s_2), .d (.int .u64 s_3), .d (.int .u64 s_4), .d (.int .i64 s_5)])], 1⟩ o := by
  induction n with
  | zero => intro t12 t13 t14 t18 t19 t20 s_0 s_1 s_2 s_3 s_4 s_5 w h; rw [f80_sip_Sum_L6] at h; cases h
  | succ n ih =>
    intro t12 t13 t14 t18 t19 t20 s_0 s_1 s_2 s_3 s_4 s_5 w h o hk
    rw [f80_sip_Sum_L6] at h
    rcases iteS h with ⟨b36_e0, h⟩ | ⟨b36_e0, h⟩
    · refine At.step hm ht ⟨[], [true], [], [5, 12, 13, 14, 18, 19, 20], [0]⟩ 7 ⟨[(5, .one (.c (.ptr 0 0))), (12, .one (.c (.d (.sl (.slice (.int .u8)) t12)))), (13, .one (.c (.d (.int .i64 t13)))), (14, .one (.c (.d (.int .i64 t14)))), (18, .one (.c (.d (.sl (.int .u8) t18)))), (19, .one (.c (.d (.int .i64 t19)))), (20, .one (.c (.d (.int .i64 t20))))], [], [(0, [.d (.int .u64 s_0), .d (.int .u64 s_1), .d (.int .u64 s_2), .d (.int .u64 s_3), .d (.int .u64 s_4), .d (.int .i64 s_5)])], 1⟩ [(decide ((t20 : Int) < t19)) = true] (by kernel_rfl) ⟨b36_e0, trivial⟩ ?_
      obtain ⟨g37_0, h⟩ := ifS h
      refine At.step hm ht ⟨[], [], [], [5, 9, 12, 13, 14, 18, 19, 20], [0]⟩ 8 ⟨[(5, .one (.c (.ptr 0 0))), (9, .one (.c (.d (.int .u8 (t18.getD t20.toNat 0))))), (12, .one (.c (.d (.sl (.slice (.int .u8)) t12)))), (13, .one (.c (.d (.int .i64 t13)))), (14, .one (.c (.d (.int .i64 t14)))), (18, .one (.c (.d (.sl (.int .u8) t18)))), (19, .one (.c (.d (.int .i64 t19)))), (20, .one (.c (.d (.int .i64 t20))))], [], [(0, [.d (.int .u64 s_0), .d (.int .u64 s_1), .d (.int .u64 s_2), .d (.int .u64 s_3), .d (.int .u64 s_4), .d (.int .i64 s_5)])], 1⟩ [(0 : Int) ≤ t20 ∧ t20 < (((t18).length : Nat) : Int)] (by kernel_rfl) ⟨g37_0, trivial⟩ ?_
      obtain ⟨r38_0, cr38_0, h⟩ := bindS h
      refine At.step hm ht ⟨[(2, .call [0] [] (f117_sip_state_byte_out r38_0))], [], [], [5, 12, 13, 14, 18, 19, 20], [0]⟩ 9 ⟨[(5, .one (.c (.ptr 0 0))), (12, .one (.c (.d (.sl (.slice (.int .u8)) t12)))), (13, .one (.c (.d (.int .i64 t13)))), (14, .one (.c (.d (.int .i64 t14)))), (18, .one (.c (.d (.sl (.int .u8) t18)))), (19, .one (.c (.d (.int .i64 t19)))), (20, .one (.c (.d (.int .i64 t20))))], [], [(0, [.d (.int .u64 r38_0.1), .d (.int .u64 r38_0.2.1), .d (.int .u64 r38_0.2.2.1), .d (.int .u64 r38_0.2.2.2.1), .d (.int .u64 r38_0.2.2.2.2.1), .d (.int .i64 r38_0.2.2.2.2.2)])], 1⟩ [FnOK Go.Proofs.Try.prog 117 (f117_sip_state_byte_in (t18.getD t20.toNat 0) s_0 s_1 s_2 s_3 s_4 s_5) (f117_sip_state_byte_out r38_0)] (by kernel_rfl) ⟨(f117_sip_state_byte_ok (t18.getD t20.toNat 0) s_0 s_1 s_2 s_3 s_4 s_5 r38_0 cr38_0), trivial⟩ ?_
      refine At.step hm ht ⟨[], [], [], [5, 12, 13, 14, 18, 19, 20], [0]⟩ 6 ⟨[(5, .one (.c (.ptr 0 0))), (12, .one (.c (.d (.sl (.slice (.int .u8)) t12)))), (13, .one (.c (.d (.int .i64 t13)))), (14, .one (.c (.d (.int .i64 t14)))), (18, .one (.c (.d (.sl (.int .u8) t18)))), (19, .one (.c (.d (.int .i64 t19)))), (20, .one (.c (.d (.int .i64 (IntKind.wrap .i64 (t20 + 1))))))], [], [(0, [.d (.int .u64 r38_0.1), .d (.int .u64 r38_0.2.1), .d (.int .u64 r38_0.2.2.1), .d (.int .u64 r38_0.2.2.2.1), .d (.int .u64 r38_0.2.2.2.2.1), .d (.int .i64 r38_0.2.2.2.2.2)])], 1⟩ [] (by kernel_rfl) trivial ?_
      exact ih t12 t13 t14 t18 t19 (IntKind.wrap .i64 (t20 + 1)) r38_0.1 r38_0.2.1 r38_0.2.2.1 r38_0.2.2.2.1 r38_0.2.2.2.2.1 r38_0.2.2.2.2.2 w h o hk
    · refine At.step hm ht ⟨[], [false], [], [5, 12, 13, 14], [0]⟩ 10 ⟨[(5, .one (.c (.ptr 0 0))), (12, .one (.c (.d (.sl (.slice (.int .u8)) t12)))), (13, .one (.c (.d (.int .i64 t13)))), (14, .one (.c (.d (.int .i64 t14))))], [], [(0, [.d (.int .u64 s_0), .d (.int .u64 s_1), .d (.int .u64 s_2), .d (.int .u64 s_3), .d (.int .u64 s_4), .d (.int .i64 s_5)])], 1⟩ [(decide ((t20 : Int) < t19)) = false] (by kernel_rfl) ⟨b36_e0, trivial⟩ ?_
      have h := Option.some.inj h
      subst h
      exact hk
def f80_sip_Sum_L3 : Nat → (List (List Int)) → Int → Int → Int → Int → Int → Int → Int → Int → Option (Int × Int × Int × Int × Int × Int)
  | 0, _, _, _, _, _, _, _, _, _ => none
  | n + 1, t12, t13, t14, s_0, s_1, s_2, s_3, s_4, s_5 =>
    if (decide ((t14 : Int) < t13)) = true then
      if (0 : Int) ≤ t14 ∧ t14 < (((t12).length : Nat) : Int) then
      (f80_sip_Sum_L6 n t12 t13 t14 (t12.getD t14.toNat []) (((t12.getD t14.toNat []).length : Nat) : Int) 0 s_0 s_1 s_2 s_3 s_4 s_5).bind fun w63 =>
      f80_sip_Sum_L3 n w63.1 w63.2.1 (IntKind.wrap .i64 (w63.2.2.1 + 1)) w63.2.2.2.1 w63.2.2.2.2.1 w63.2.2.2.2.2.1 w63.2.2.2.2.2.2.1 w63.2.2.2.2.2.2.2.1 w63.2.2.2.2.2.2.2.2
      else none
    else
      some ((s_0, s_1, s_2, s_3, s_4, s_5))
def f80_sip_Sum_L3_k (e : Int × Int × Int × Int × Int × Int) (o : Out) : Prop := At Go.Proofs.Try.prog Go.Proofs.Try.f80 0 11 ⟨[(5, .one (.c (.ptr 0 0)))], [], [(0, [.d (.int .u64 e.1), .d (.int .u64 e.2.1), .d (.int .u64 e.2.2.1), .d (.int .u64 e.2.2.2.1), .d (.int .u64 e.2.2.2.2.1), .d (.int .i64 e.2.2.2.2.2)])], 1⟩ o
theorem f80_sip_Sum_L3_ok (n : Nat) : ∀ (t12 : List (List Int)) (t13 : Int) (t14 : Int) (s_0 : Int) (s_1 : Int) (s_2 : Int) (s_3 : Int) (s_4 : Int) (s_5 : Int) (w : Int × Int × Int × Int × Int × Int) (h : f80_sip_Sum_L3 n t12 t13 t14 s_0 s_1 s_2 s_3 s_4 s_5 = some w) (o : Out) (hk : f80_sip_Sum_L3_k w o), At Go.Proofs.Try.prog Go.Proofs.Try.f80 0 3 ⟨[(5, .one (.c (.ptr 0 0))), (12, .one (.c (.d (.sl (.slice (.int .u8)) t12)))), (13, .one (.c (.d (.int .i64 t13)))), (14, .one (.c (.d (.int .i64 t14))))], [], [(0, [.d (.int .u64 s_0), .d (.int .u64 s_1), .d (.int .u64 s_2), .d (.int .u64 s_3), .d (.int .u64 s_4), .d (.int .i64 s_5)])], 1⟩ o := by
  induction n with
  | zero => intro t12 t13 t14 s_0 s_1 s_2 s_3 s_4 s_5 w h; rw [f80_sip_Sum_L3] at h; cases h
  | succ n ih =>
    intro t12 t13 t14 s_0 s_1 s_2 s_3 s_4 s_5 w h o hk
    rw [f80_sip_Sum_L3] at h
    rcases iteS h with ⟨b33_e0, h⟩ | ⟨b33_e0, h⟩
    · refine At.step hm ht ⟨[], [true], [], [5, 12, 13, 14], [0]⟩ 4 ⟨[(5, .one (.c (.ptr 0 0))), (12, .one (.c (.d (.sl (.slice (.int .u8)) t12)))), (13, .one (.c (.d (.int .i64 t13)))), (14, .one (.c (.d (.int .i64 t14))))], [], [(0, [.d (.int .u64 s_0), .d (.int .u64 s_1), .d (.int .u64 s_2), .d (.int .u64 s_3), .d (.int .u64 s_4), .d (.int .i64 s_5)])], 1⟩ [(decide ((t14 : Int) < t13)) = true] (by kernel_rfl) ⟨b33_e0, trivial⟩ ?_
      obtain ⟨g34_0, h⟩ := ifS h
      refine At.step hm ht ⟨[], [], [], [5, 7, 12, 13, 14], [0]⟩ 5 ⟨[(5, .one (.c (.ptr 0 0))), (7, .one (.c (.d (.sl (.int .u8) (t12.getD t14.toNat []))))), (12, .one (.c (.d (.sl (.slice (.int .u8)) t12)))), (13, .one (.c (.d (.int .i64 t13)))), (14, .one (.c (.d (.int .i64 t14))))], [], [(0, [.d (.int .u64 s_0), .d (.int .u64 s_1), .d (.int .u64 s_2), .d (.int .u64 s_3), .d (.int .u64 s_4), .d (.int .i64 s_5)])], 1⟩ [(0 : Int) ≤ t14 ∧ t14 < (((t12).length : Nat) : Int)] (by kernel_rfl) ⟨g34_0, trivial⟩ ?_
      refine At.step hm ht ⟨[], [], [], [5, 12, 13, 14, 18, 19, 20], [0]⟩ 6 ⟨[(5, .one (.c (.ptr 0 0))), (12, .one (.c (.d (.sl (.slice (.int .u8)) t12)))), (13, .one (.c (.d (.int .i64 t13)))), (14, .one (.c (.d (.int .i64 t14)))), (18, .one (.c (.d (.sl (.int .u8) (t12.getD t14.toNat []))))), (19, .one (.c (.d (.int .i64 (((t12.getD t14.toNat []).length : Nat) : Int))))), (20, .one (.c (.d (.int .i64 0))))], [], [(0, [.d (.int .u64 s_0), .d (.int .u64 s_1), .d (.int .u64 s_2), .d (.int .u64 s_3), .d (.int .u64 s_4), .d (.int .i64 s_5)])], 1⟩ [] (by kernel_rfl) trivial ?_
      obtain ⟨w63, cw63, h⟩ := bindS h
      refine f80_sip_Sum_L6_ok n t12 t13 t14 (t12.getD t14.toNat []) (((t12.getD t14.toNat []).length : Nat) : Int) 0 s_0 s_1 s_2 s_3 s_4 s_5 w63 cw63 _ ?_
      show At Go.Proofs.Try.prog Go.Proofs.Try.f80 0 10 ⟨[(5, .one (.c (.ptr 0 0))), (12, .one (.c (.d (.sl (.slice (.int .u8)) w63.1)))), (13, .one (.c (.d (.int .i64 w63.2.1)))), (14, .one (.c (.d (.int .i64 w63.2.2.1))))], [], [(0, [.d (.int .u64 w63.2.2.2.1), .d (.int .u64 w63.2.2.2.2.1), .d (.int .u64 w63.2.2.2.2.2.1), .d (.int .u64 w63.2.2.2.2.2.2.1), .d (.int .u64 w63.2.2.2.2.2.2.2.1), .d (.int .i64 w63.2.2.2.2.2.2.2.2)])], 1⟩ _
      refine At.step hm ht ⟨[], [], [], [5, 12, 13, 14], [0]⟩ 3 ⟨[(5, .one (.c (.ptr 0 0))), (12, .one (.c (.d (.sl (.slice (.int .u8)) w63.1)))), (13, .one (.c (.d (.int .i64 w63.2.1)))), (14, .one (.c (.d (.int .i64 (IntKind.wrap .i64 (w63.2.2.1 + 1))))))], [], [(0, [.d (.int .u64 w63.2.2.2.1), .d (.int .u64 w63.2.2.2.2.1), .d (.int .u64 w63.2.2.2.2.2.1), .d (.int .u64 w63.2.2.2.2.2.2.1), .d (.int .u64 w63.2.2.2.2.2.2.2.1), .d (.int .i64 w63.2.2.2.2.2.2.2.2)])], 1⟩ [] (by kernel_rfl) trivial ?_
      exact ih w63.1 w63.2.1 (IntKind.wrap .i64 (w63.2.2.1 + 1)) w63.2.2.2.1 w63.2.2.2.2.1 w63.2.2.2.2.2.1 w63.2.2.2.2.2.2.1 w63.2.2.2.2.2.2.2.1 w63.2.2.2.2.2.2.2.2 w h o hk
    · refine At.step hm ht ⟨[], [false], [], [5], [0]⟩ 11 ⟨[(5, .one (.c (.ptr 0 0)))], [], [(0, [.d (.int .u64 s_0), .d (.int .u64 s_1), .d (.int .u64 s_2), .d (.int .u64 s_3), .d (.int .u64 s_4), .d (.int .i64 s_5)])], 1⟩ [(decide ((t14 : Int) < t13)) = false] (by kernel_rfl) ⟨b33_e0, trivial⟩ ?_
      have h := Option.some.inj h
      subst h
      exact hk
def f80_sip_Sum (n : Nat) (k_0 : Int) (k_1 : Int) (parts : List (List Int)) : Option (Int) :=
  (f116_sip_begin k_0 k_1).bind fun r29_0 =>
  (f80_sip_Sum_L3 n parts ((parts.length : Nat) : Int) 0 r29_0.1 r29_0.2.1 r29_0.2.2.1 r29_0.2.2.2.1 r29_0.2.2.2.2.1 r29_0.2.2.2.2.2).bind fun w66 =>
  (f118_sip_state_end n w66.1 w66.2.1 w66.2.2.1 w66.2.2.2.1 w66.2.2.2.2.1 w66.2.2.2.2.2).bind fun r68_0 =>
  some r68_0.1
theorem f80_sip_Sum_ok (n : Nat) (k_0 : Int) (k_1 : Int) (parts : List (List Int)) (r : Int) (h : f80_sip_Sum n k_0 k_1 parts = some r) : FnOK Go.Proofs.Try.prog 80 (f80_sip_Sum_in k_0 k_1 parts) (f80_sip_Sum_out r) := by
  unfold f80_sip_Sum at h
  refine At.fn (r := 0) Go.Proofs.Try.func80 rfl (by kernel_rfl) rfl rfl (by kernel_rfl) ?_
  show At Go.Proofs.Try.prog Go.Proofs.Try.f80 0 0 ⟨[(0, .one (.agg [.d (.int .u64 k_0), .d (.int .u64 k_1)])), (1, .one (.c (.d (.sl (.slice (.int .u8)) parts))))], [], [], 0⟩ _
  refine At.step hm ht ⟨[], [], [], [1, 2], [0]⟩ 1 ⟨[(1, .one (.c (.d (.sl (.slice (.int .u8)) parts)))), (2, .one (.c (.ptr 0 0)))], [], [(0, [.d (.int .u64 k_0), .d (.int .u64 k_1)])], 1⟩ [] (by kernel_rfl) trivial ?_
  obtain ⟨r29_0, cr29_0, h⟩ := bindS h
  refine At.step hm ht ⟨[(1, .call [] [] (f116_sip_begin_out r29_0))], [], [], [1, 5], [2]⟩ 2 ⟨[(1, .one (.c (.d (.sl (.slice (.int .u8)) parts)))), (5, .one (.c (.ptr 0 0)))], [], [(0, [.d (.int .u64 r29_0.1), .d (.int .u64 r29_0.2.1), .d (.int .u64 r29_0.2.2.1), .d (.int .u64 r29_0.2.2.2.1), .d (.int .u64 r29_0.2.2.2.2.1), .d (.int .i64 r29_0.2.2.2.2.2)])], 1⟩ [FnOK Go.Proofs.Try.prog 116 (f116_sip_begin_in k_0 k_1) (f116_sip_begin_out r29_0)] (by kernel_rfl) ⟨(f116_sip_begin_ok k_0 k_1 r29_0 cr29_0), trivial⟩ ?_
  refine At.step hm ht ⟨[], [], [], [5, 12, 13, 14], [0]⟩ 3 ⟨[(5, .one (.c (.ptr 0 0))), (12, .one (.c (.d (.sl (.slice (.int .u8)) parts)))), (13, .one (.c (.d (.int .i64 ((parts.length : Nat) : Int))))), (14, .one (.c (.d (.int .i64 0))))], [], [(0, [.d (.int .u64 r29_0.1), .d (.int .u64 r29_0.2.1), .d (.int .u64 r29_0.2.2.1), .d (.int .u64 r29_0.2.2.2.1), .d (.int .u64 r29_0.2.2.2.2.1), .d (.int .i64 r29_0.2.2.2.2.2)])], 1⟩ [] (by kernel_rfl) trivial ?_
  obtain ⟨w66, cw66, h⟩ := bindS h
  refine f80_sip_Sum_L3_ok n parts ((parts.length : Nat) : Int) 0 r29_0.1 r29_0.2.1 r29_0.2.2.1 r29_0.2.2.2.1 r29_0.2.2.2.2.1 r29_0.2.2.2.2.2 w66 cw66 _ ?_
  show At Go.Proofs.Try.prog Go.Proofs.Try.f80 0 11 ⟨[(5, .one (.c (.ptr 0 0)))], [], [(0, [.d (.int .u64 w66.1), .d (.int .u64 w66.2.1), .d (.int .u64 w66.2.2.1), .d (.int .u64 w66.2.2.2.1), .d (.int .u64 w66.2.2.2.2.1), .d (.int .i64 w66.2.2.2.2.2)])], 1⟩ _
  obtain ⟨r68_0, cr68_0, h⟩ := bindS h
  have h := Option.some.inj h
  subst h
  exact At.fin hm ht ⟨[(1, .call [0] [] (f118_sip_state_end_out r68_0))], [], [], [4], []⟩ [FnOK Go.Proofs.Try.prog 118 (f118_sip_state_end_in w66.1 w66.2.1 w66.2.2.1 w66.2.2.2.1 w66.2.2.2.2.1 w66.2.2.2.2.2) (f118_sip_state_end_out r68_0)] (by kernel_rfl) ⟨(f118_sip_state_end_ok n w66.1 w66.2.1 w66.2.2.1 w66.2.2.2.1 w66.2.2.2.2.1 w66.2.2.2.2.2 r68_0 cr68_0), trivial⟩
/-! brougham/sip.Pair -/
def f79_sip_Pair_in (k_0 : Int) (k_1 : Int) (parts : List (List Int)) : Inn := ⟨[.agg [.d (.int .u64 k_0), .d (.int .u64 k_1)], .c (.d (.sl (.slice (.int .u8)) parts))], [], [], 0⟩
def f79_sip_Pair_out (r : Int × Int) : Out := ⟨.one (.agg [.d (.int .u64 r.1), .d (.int .u64 r.2)]), [], [(0, [.d (.int .u64 r.1), .d (.int .u64 r.2)])], 1⟩
def f79_sip_Pair (n : Nat) (k_0 : Int) (k_1 : Int) (parts : List (List Int)) : Option (Int × Int) :=
  if [[1]].length + parts.length ≤ maxLen ∧ ([[1]].length + parts.length) * 24 ≤ 140737488355328 then
  if [[2]].length + parts.length ≤ maxLen ∧ ([[2]].length + parts.length) * 24 ≤ 140737488355328 then
  (f80_sip_Sum n k_0 k_1 ([[1]] ++ parts)).bind fun r27_0 =>
  (f80_sip_Sum n k_0 k_1 ([[2]] ++ parts)).bind fun r27_1 =>
  some (r27_0, r27_1)
  else none
  else none
theorem f79_sip_Pair_ok (n : Nat) (k_0 : Int) (k_1 : Int) (parts : List (List Int)) (r : Int × Int) (h : f79_sip_Pair n k_0 k_1 parts = some r) : FnOK Go.Proofs.Try.prog 79 (f79_sip_Pair_in k_0 k_1 parts) (f79_sip_Pair_out r) := by
  unfold f79_sip_Pair at h
  refine At.fn (r := 0) Go.Proofs.Try.func79 rfl (by kernel_rfl) rfl rfl (by kernel_rfl) ?_
  show At Go.Proofs.Try.prog Go.Proofs.Try.f79 0 0 ⟨[(0, .one (.agg [.d (.int .u64 k_0), .d (.int .u64 k_1)])), (1, .one (.c (.d (.sl (.slice (.int .u8)) parts))))], [], [], 0⟩ _
  refine At.step hm ht ⟨[], [], [], [1, 2, 4], [0, 1]⟩ 1 ⟨[(1, .one (.c (.d (.sl (.slice (.int .u8)) parts)))), (2, .one (.c (.ptr 0 0))), (4, .one (.c (.ptr 1 0)))], [], [(0, [.d (.int .u64 k_0), .d (.int .u64 k_1)]), (1, [.d (.int .u64 0), .d (.int .u64 0)])], 2⟩ [] (by kernel_rfl) trivial ?_
  obtain ⟨g25_0, h⟩ := ifS h
  refine At.step hm ht ⟨[], [], [], [1, 2, 4, 5], [0, 1, 5]⟩ 2 ⟨[(1, .one (.c (.d (.sl (.slice (.int .u8)) parts)))), (2, .one (.c (.ptr 0 0))), (4, .one (.c (.ptr 1 0))), (5, .one (.c (.own 2 (.slice (.int .u8)) ([[1]] ++ parts))))], [(2, some ⟨28, 0⟩)], [(0, [.d (.int .u64 k_0), .d (.int .u64 k_1)]), (1, [.d (.int .u64 0), .d (.int .u64 0)])], 3⟩ [[[1]].length + parts.length ≤ maxLen ∧ ([[1]].length + parts.length) * 24 ≤ 140737488355328] (by kernel_rfl) ⟨g25_0, trivial⟩ ?_
  obtain ⟨g26_0, h⟩ := ifS h
  refine At.step hm ht ⟨[], [], [], [2, 4, 5, 6], [0, 1, 2, 6]⟩ 3 ⟨[(2, .one (.c (.ptr 0 0))), (4, .one (.c (.ptr 1 0))), (5, .one (.c (.own 2 (.slice (.int .u8)) ([[1]] ++ parts)))), (6, .one (.c (.own 3 (.slice (.int .u8)) ([[2]] ++ parts))))], [(2, some ⟨28, 0⟩), (3, some ⟨28, 0⟩)], [(0, [.d (.int .u64 k_0), .d (.int .u64 k_1)]), (1, [.d (.int .u64 0), .d (.int .u64 0)])], 4⟩ [[[2]].length + parts.length ≤ maxLen ∧ ([[2]].length + parts.length) * 24 ≤ 140737488355328] (by kernel_rfl) ⟨g26_0, trivial⟩ ?_
  obtain ⟨r27_0, cr27_0, h⟩ := bindS h
  obtain ⟨r27_1, cr27_1, h⟩ := bindS h
  have h := Option.some.inj h
  subst h
  exact At.fin hm ht ⟨[(2, .call [] [] (f80_sip_Sum_out r27_0)), (5, .call [] [] (f80_sip_Sum_out r27_1))], [], [], [4], [1]⟩ [FnOK Go.Proofs.Try.prog 80 (f80_sip_Sum_in k_0 k_1 ([[1]] ++ parts)) (f80_sip_Sum_out r27_0), FnOK Go.Proofs.Try.prog 80 (f80_sip_Sum_in k_0 k_1 ([[2]] ++ parts)) (f80_sip_Sum_out r27_1), 0 + 2 ≤ 2] (by kernel_rfl) ⟨(f80_sip_Sum_ok n k_0 k_1 ([[1]] ++ parts) r27_0 cr27_0), (f80_sip_Sum_ok n k_0 k_1 ([[2]] ++ parts) r27_1 cr27_1), (by decide), trivial⟩
/-! brougham/keys.Session -/
def f44_keys_Session_in (client : Int) (server : Int) : Inn := ⟨[.c (.d (.int .u64 client)), .c (.d (.int .u64 server))], [], [], 0⟩
def f44_keys_Session_out (r : Int × Int × Int × Int × Int × Int × Int × Int × Int) : Out := ⟨.one (.agg [.d (.int .u64 r.1), .d (.int .u64 r.2.1), .d (.int .u64 r.2.2.1), .d (.int .u64 r.2.2.2.1), .d (.int .u64 r.2.2.2.2.1), .d (.int .u64 r.2.2.2.2.2.1), .d (.int .u64 r.2.2.2.2.2.2.1), .d (.int .u64 r.2.2.2.2.2.2.2.1), .d (.int .u32 r.2.2.2.2.2.2.2.2)]), [], [(0, [.d (.int .u64 r.1), .d (.int .u64 r.2.1), .d (.int .u64 r.2.2.1), .d (.int .u64 r.2.2.2.1), .d (.int .u64 r.2.2.2.2.1), .d (.int .u64 r.2.2.2.2.2.1), .d (.int .u64 r.2.2.2.2.2.2.1), .d (.int .u64 r.2.2.2.2.2.2.2.1), .d (.int .u32 r.2.2.2.2.2.2.2.2)])], 1⟩
def f44_keys_Session (n : Nat) (client : Int) (server : Int) : Option (Int × Int × Int × Int × Int × Int × Int × Int × Int) :=
  (f79_sip_Pair n client server [[105, 100]]).bind fun r23_0 =>
  (f79_sip_Pair n client server [[99, 108, 105, 101, 110, 116]]).bind fun r23_1 =>
  (f79_sip_Pair n client server [[115, 101, 114, 118, 101, 114]]).bind fun r23_2 =>
  (f79_sip_Pair n client server [[106, 111, 105, 110]]).bind fun r23_3 =>
  (f80_sip_Sum n client server [[116, 111, 107, 101, 110]]).bind fun r23_4 =>
  some (r23_0.1, r23_0.2, r23_1.1, r23_1.2, r23_2.1, r23_2.2, r23_3.1, r23_3.2, (IntKind.wrap .u32 r23_4))
theorem f44_keys_Session_ok (n : Nat) (client : Int) (server : Int) (r : Int × Int × Int × Int × Int × Int × Int × Int × Int) (h : f44_keys_Session n client server = some r) : FnOK Go.Proofs.Try.prog 44 (f44_keys_Session_in client server) (f44_keys_Session_out r) := by
  unfold f44_keys_Session at h
  refine At.fn (r := 0) Go.Proofs.Try.func44 rfl (by kernel_rfl) rfl rfl (by kernel_rfl) ?_
  show At Go.Proofs.Try.prog Go.Proofs.Try.f44 0 0 ⟨[(0, .one (.c (.d (.int .u64 client)))), (1, .one (.c (.d (.int .u64 server))))], [], [], 0⟩ _
  refine At.step hm ht ⟨[], [], [], [0, 1, 4], [0]⟩ 1 ⟨[(0, .one (.c (.d (.int .u64 client)))), (1, .one (.c (.d (.int .u64 server)))), (4, .one (.c (.ptr 0 0)))], [], [(0, [.d (.int .u64 0), .d (.int .u64 0), .d (.int .u64 0), .d (.int .u64 0), .d (.int .u64 0), .d (.int .u64 0), .d (.int .u64 0), .d (.int .u64 0), .d (.int .u32 0)])], 1⟩ [] (by kernel_rfl) trivial ?_
  refine At.step hm ht ⟨[], [], [], [4, 5], [0, 4]⟩ 2 ⟨[(4, .one (.c (.ptr 0 0))), (5, .one (.c (.ptr 1 0)))], [], [(0, [.d (.int .u64 0), .d (.int .u64 0), .d (.int .u64 0), .d (.int .u64 0), .d (.int .u64 0), .d (.int .u64 0), .d (.int .u64 0), .d (.int .u64 0), .d (.int .u32 0)]), (1, [.d (.int .u64 client), .d (.int .u64 server)])], 2⟩ [0 + 2 ≤ 2] (by kernel_rfl) ⟨(by decide), trivial⟩ ?_
  obtain ⟨r23_0, cr23_0, h⟩ := bindS h
  obtain ⟨r23_1, cr23_1, h⟩ := bindS h
  obtain ⟨r23_2, cr23_2, h⟩ := bindS h
  obtain ⟨r23_3, cr23_3, h⟩ := bindS h
  obtain ⟨r23_4, cr23_4, h⟩ := bindS h
  have h := Option.some.inj h
  subst h
  exact At.fin hm ht ⟨[(4, .call [] [] (f79_sip_Pair_out r23_0)), (9, .call [] [] (f79_sip_Pair_out r23_1)), (14, .call [] [] (f79_sip_Pair_out r23_2)), (19, .call [] [] (f79_sip_Pair_out r23_3)), (24, .call [] [] (f80_sip_Sum_out r23_4))], [], [], [4], [0]⟩ [FnOK Go.Proofs.Try.prog 79 (f79_sip_Pair_in client server [[105, 100]]) (f79_sip_Pair_out r23_0), FnOK Go.Proofs.Try.prog 79 (f79_sip_Pair_in client server [[99, 108, 105, 101, 110, 116]]) (f79_sip_Pair_out r23_1), FnOK Go.Proofs.Try.prog 79 (f79_sip_Pair_in client server [[115, 101, 114, 118, 101, 114]]) (f79_sip_Pair_out r23_2), FnOK Go.Proofs.Try.prog 79 (f79_sip_Pair_in client server [[106, 111, 105, 110]]) (f79_sip_Pair_out r23_3), FnOK Go.Proofs.Try.prog 80 (f80_sip_Sum_in client server [[116, 111, 107, 101, 110]]) (f80_sip_Sum_out r23_4), 0 + 9 ≤ 9] (by kernel_rfl) ⟨(f79_sip_Pair_ok n client server [[105, 100]] r23_0 cr23_0), (f79_sip_Pair_ok n client server [[99, 108, 105, 101, 110, 116]] r23_1 cr23_1), (f79_sip_Pair_ok n client server [[115, 101, 114, 118, 101, 114]] r23_2 cr23_2), (f79_sip_Pair_ok n client server [[106, 111, 105, 110]] r23_3 cr23_3), (f80_sip_Sum_ok n client server [[116, 111, 107, 101, 110]] r23_4 cr23_4), (by decide), trivial⟩
/-! brougham/broughamlaw09.alive -/
def f43_broughamlaw09_alive_in : Inn := ⟨[], [], [], 0⟩
def f43_broughamlaw09_alive_out (r : Bool) : Out := ⟨.one (.c (.d (.bool r))), [], [], 0⟩
def f43_broughamlaw09_alive (n : Nat) : Option (Bool) :=
  (f44_keys_Session n 1 2).bind fun r20_0 =>
  (f41_keys_Keys_Out r20_0.1 r20_0.2.1 r20_0.2.2.1 r20_0.2.2.2.1 r20_0.2.2.2.2.1 r20_0.2.2.2.2.2.1 r20_0.2.2.2.2.2.2.1 r20_0.2.2.2.2.2.2.2.1 r20_0.2.2.2.2.2.2.2.2 1).bind fun r79_0 =>
  (f42_keys_Keys_In r20_0.1 r20_0.2.1 r20_0.2.2.1 r20_0.2.2.2.1 r20_0.2.2.2.2.1 r20_0.2.2.2.2.2.1 r20_0.2.2.2.2.2.2.1 r20_0.2.2.2.2.2.2.2.1 r20_0.2.2.2.2.2.2.2.2 2).bind fun r79_1 =>
  if (((r79_0.1 : Int) == r79_1.1) && ((r79_0.2 : Int) == r79_1.2)) = true then
    (f41_keys_Keys_Out r20_0.1 r20_0.2.1 r20_0.2.2.1 r20_0.2.2.2.1 r20_0.2.2.2.2.1 r20_0.2.2.2.2.2.1 r20_0.2.2.2.2.2.2.1 r20_0.2.2.2.2.2.2.2.1 r20_0.2.2.2.2.2.2.2.2 1).bind fun r79_2 =>
    (f41_keys_Keys_Out r20_0.1 r20_0.2.1 r20_0.2.2.1 r20_0.2.2.2.1 r20_0.2.2.2.2.1 r20_0.2.2.2.2.2.1 r20_0.2.2.2.2.2.2.1 r20_0.2.2.2.2.2.2.2.1 r20_0.2.2.2.2.2.2.2.2 2).bind fun r79_3 =>
    if (!(((r79_2.1 : Int) == r79_3.1) && ((r79_2.2 : Int) == r79_3.2))) = true then
      (f44_keys_Session n 2 1).bind fun r79_4 =>
      some (!(((r20_0.1 : Int) == r79_4.1) && ((r20_0.2.1 : Int) == r79_4.2.1)))
    else
      some false
  else
    some false
theorem f43_broughamlaw09_alive_ok (n : Nat) (r : Bool) (h : f43_broughamlaw09_alive n = some r) : FnOK Go.Proofs.Try.prog 43 (f43_broughamlaw09_alive_in) (f43_broughamlaw09_alive_out r) := by
  unfold f43_broughamlaw09_alive at h
  refine At.fn (r := 0) Go.Proofs.Try.func43 rfl (by kernel_rfl) rfl rfl (by kernel_rfl) ?_
  show At Go.Proofs.Try.prog Go.Proofs.Try.f43 0 0 ⟨[], [], [], 0⟩ _
  refine At.step hm ht ⟨[], [], [], [], []⟩ 1 ⟨[], [], [], 0⟩ [] (by kernel_rfl) trivial ?_
  obtain ⟨r20_0, cr20_0, h⟩ := bindS h
  refine At.step hm ht ⟨[(0, .call [] [] (f44_keys_Session_out r20_0))], [], [], [1], [1]⟩ 2 ⟨[(1, .one (.c (.ptr 0 0)))], [], [(0, [.d (.int .u64 r20_0.1), .d (.int .u64 r20_0.2.1), .d (.int .u64 r20_0.2.2.1), .d (.int .u64 r20_0.2.2.2.1), .d (.int .u64 r20_0.2.2.2.2.1), .d (.int .u64 r20_0.2.2.2.2.2.1), .d (.int .u64 r20_0.2.2.2.2.2.2.1), .d (.int .u64 r20_0.2.2.2.2.2.2.2.1), .d (.int .u32 r20_0.2.2.2.2.2.2.2.2)])], 1⟩ [FnOK Go.Proofs.Try.prog 44 (f44_keys_Session_in 1 2) (f44_keys_Session_out r20_0), 0 + 9 ≤ 9] (by kernel_rfl) ⟨(f44_keys_Session_ok n 1 2 r20_0 cr20_0), (by decide), trivial⟩ ?_
  obtain ⟨r79_0, cr79_0, h⟩ := bindS h
  obtain ⟨r79_1, cr79_1, h⟩ := bindS h
  rcases iteS h with ⟨b79_5, h⟩ | ⟨b79_5, h⟩
  · obtain ⟨r79_2, cr79_2, h⟩ := bindS h
    obtain ⟨r79_3, cr79_3, h⟩ := bindS h
    rcases iteS h with ⟨b79_12, h⟩ | ⟨b79_12, h⟩
    · obtain ⟨r79_4, cr79_4, h⟩ := bindS h
      have h := Option.some.inj h
      subst h
      exact At.fin hm ht ⟨[(1, .call [] [] (f41_keys_Keys_Out_out r79_0)), (3, .call [] [] (f42_keys_Keys_In_out r79_1)), (5, .b true), (7, .call [] [] (f41_keys_Keys_Out_out r79_2)), (9, .call [] [] (f41_keys_Keys_Out_out r79_3)), (12, .b true), (15, .call [] [] (f44_keys_Session_out r79_4))], [], [], [0], []⟩ [FnOK Go.Proofs.Try.prog 41 (f41_keys_Keys_Out_in r20_0.1 r20_0.2.1 r20_0.2.2.1 r20_0.2.2.2.1 r20_0.2.2.2.2.1 r20_0.2.2.2.2.2.1 r20_0.2.2.2.2.2.2.1 r20_0.2.2.2.2.2.2.2.1 r20_0.2.2.2.2.2.2.2.2 1) (f41_keys_Keys_Out_out r79_0), FnOK Go.Proofs.Try.prog 42 (f42_keys_Keys_In_in r20_0.1 r20_0.2.1 r20_0.2.2.1 r20_0.2.2.2.1 r20_0.2.2.2.2.1 r20_0.2.2.2.2.2.1 r20_0.2.2.2.2.2.2.1 r20_0.2.2.2.2.2.2.2.1 r20_0.2.2.2.2.2.2.2.2 2) (f42_keys_Keys_In_out r79_1), (((r79_0.1 : Int) == r79_1.1) && ((r79_0.2 : Int) == r79_1.2)) = true, FnOK Go.Proofs.Try.prog 41 (f41_keys_Keys_Out_in r20_0.1 r20_0.2.1 r20_0.2.2.1 r20_0.2.2.2.1 r20_0.2.2.2.2.1 r20_0.2.2.2.2.2.1 r20_0.2.2.2.2.2.2.1 r20_0.2.2.2.2.2.2.2.1 r20_0.2.2.2.2.2.2.2.2 1) (f41_keys_Keys_Out_out r79_2), FnOK Go.Proofs.Try.prog 41 (f41_keys_Keys_Out_in r20_0.1 r20_0.2.1 r20_0.2.2.1 r20_0.2.2.2.1 r20_0.2.2.2.2.1 r20_0.2.2.2.2.2.1 r20_0.2.2.2.2.2.2.1 r20_0.2.2.2.2.2.2.2.1 r20_0.2.2.2.2.2.2.2.2 2) (f41_keys_Keys_Out_out r79_3), (!(((r79_2.1 : Int) == r79_3.1) && ((r79_2.2 : Int) == r79_3.2))) = true, FnOK Go.Proofs.Try.prog 44 (f44_keys_Session_in 2 1) (f44_keys_Session_out r79_4)] (by kernel_rfl) ⟨(f41_keys_Keys_Out_ok r20_0.1 r20_0.2.1 r20_0.2.2.1 r20_0.2.2.2.1 r20_0.2.2.2.2.1 r20_0.2.2.2.2.2.1 r20_0.2.2.2.2.2.2.1 r20_0.2.2.2.2.2.2.2.1 r20_0.2.2.2.2.2.2.2.2 1 r79_0 cr79_0), (f42_keys_Keys_In_ok r20_0.1 r20_0.2.1 r20_0.2.2.1 r20_0.2.2.2.1 r20_0.2.2.2.2.1 r20_0.2.2.2.2.2.1 r20_0.2.2.2.2.2.2.1 r20_0.2.2.2.2.2.2.2.1 r20_0.2.2.2.2.2.2.2.2 2 r79_1 cr79_1), b79_5, (f41_keys_Keys_Out_ok r20_0.1 r20_0.2.1 r20_0.2.2.1 r20_0.2.2.2.1 r20_0.2.2.2.2.1 r20_0.2.2.2.2.2.1 r20_0.2.2.2.2.2.2.1 r20_0.2.2.2.2.2.2.2.1 r20_0.2.2.2.2.2.2.2.2 1 r79_2 cr79_2), (f41_keys_Keys_Out_ok r20_0.1 r20_0.2.1 r20_0.2.2.1 r20_0.2.2.2.1 r20_0.2.2.2.2.1 r20_0.2.2.2.2.2.1 r20_0.2.2.2.2.2.2.1 r20_0.2.2.2.2.2.2.2.1 r20_0.2.2.2.2.2.2.2.2 2 r79_3 cr79_3), b79_12, (f44_keys_Session_ok n 2 1 r79_4 cr79_4), trivial⟩
    · have h := Option.some.inj h
      subst h
      exact At.fin hm ht ⟨[(1, .call [] [] (f41_keys_Keys_Out_out r79_0)), (3, .call [] [] (f42_keys_Keys_In_out r79_1)), (5, .b true), (7, .call [] [] (f41_keys_Keys_Out_out r79_2)), (9, .call [] [] (f41_keys_Keys_Out_out r79_3)), (12, .b false)], [], [], [0], []⟩ [FnOK Go.Proofs.Try.prog 41 (f41_keys_Keys_Out_in r20_0.1 r20_0.2.1 r20_0.2.2.1 r20_0.2.2.2.1 r20_0.2.2.2.2.1 r20_0.2.2.2.2.2.1 r20_0.2.2.2.2.2.2.1 r20_0.2.2.2.2.2.2.2.1 r20_0.2.2.2.2.2.2.2.2 1) (f41_keys_Keys_Out_out r79_0), FnOK Go.Proofs.Try.prog 42 (f42_keys_Keys_In_in r20_0.1 r20_0.2.1 r20_0.2.2.1 r20_0.2.2.2.1 r20_0.2.2.2.2.1 r20_0.2.2.2.2.2.1 r20_0.2.2.2.2.2.2.1 r20_0.2.2.2.2.2.2.2.1 r20_0.2.2.2.2.2.2.2.2 2) (f42_keys_Keys_In_out r79_1), (((r79_0.1 : Int) == r79_1.1) && ((r79_0.2 : Int) == r79_1.2)) = true, FnOK Go.Proofs.Try.prog 41 (f41_keys_Keys_Out_in r20_0.1 r20_0.2.1 r20_0.2.2.1 r20_0.2.2.2.1 r20_0.2.2.2.2.1 r20_0.2.2.2.2.2.1 r20_0.2.2.2.2.2.2.1 r20_0.2.2.2.2.2.2.2.1 r20_0.2.2.2.2.2.2.2.2 1) (f41_keys_Keys_Out_out r79_2), FnOK Go.Proofs.Try.prog 41 (f41_keys_Keys_Out_in r20_0.1 r20_0.2.1 r20_0.2.2.1 r20_0.2.2.2.1 r20_0.2.2.2.2.1 r20_0.2.2.2.2.2.1 r20_0.2.2.2.2.2.2.1 r20_0.2.2.2.2.2.2.2.1 r20_0.2.2.2.2.2.2.2.2 2) (f41_keys_Keys_Out_out r79_3), (!(((r79_2.1 : Int) == r79_3.1) && ((r79_2.2 : Int) == r79_3.2))) = false] (by kernel_rfl) ⟨(f41_keys_Keys_Out_ok r20_0.1 r20_0.2.1 r20_0.2.2.1 r20_0.2.2.2.1 r20_0.2.2.2.2.1 r20_0.2.2.2.2.2.1 r20_0.2.2.2.2.2.2.1 r20_0.2.2.2.2.2.2.2.1 r20_0.2.2.2.2.2.2.2.2 1 r79_0 cr79_0), (f42_keys_Keys_In_ok r20_0.1 r20_0.2.1 r20_0.2.2.1 r20_0.2.2.2.1 r20_0.2.2.2.2.1 r20_0.2.2.2.2.2.1 r20_0.2.2.2.2.2.2.1 r20_0.2.2.2.2.2.2.2.1 r20_0.2.2.2.2.2.2.2.2 2 r79_1 cr79_1), b79_5, (f41_keys_Keys_Out_ok r20_0.1 r20_0.2.1 r20_0.2.2.1 r20_0.2.2.2.1 r20_0.2.2.2.2.1 r20_0.2.2.2.2.2.1 r20_0.2.2.2.2.2.2.1 r20_0.2.2.2.2.2.2.2.1 r20_0.2.2.2.2.2.2.2.2 1 r79_2 cr79_2), (f41_keys_Keys_Out_ok r20_0.1 r20_0.2.1 r20_0.2.2.1 r20_0.2.2.2.1 r20_0.2.2.2.2.1 r20_0.2.2.2.2.2.1 r20_0.2.2.2.2.2.2.1 r20_0.2.2.2.2.2.2.2.1 r20_0.2.2.2.2.2.2.2.2 2 r79_3 cr79_3), b79_12, trivial⟩
  · have h := Option.some.inj h
    subst h
    exact At.fin hm ht ⟨[(1, .call [] [] (f41_keys_Keys_Out_out r79_0)), (3, .call [] [] (f42_keys_Keys_In_out r79_1)), (5, .b false)], [], [], [0], []⟩ [FnOK Go.Proofs.Try.prog 41 (f41_keys_Keys_Out_in r20_0.1 r20_0.2.1 r20_0.2.2.1 r20_0.2.2.2.1 r20_0.2.2.2.2.1 r20_0.2.2.2.2.2.1 r20_0.2.2.2.2.2.2.1 r20_0.2.2.2.2.2.2.2.1 r20_0.2.2.2.2.2.2.2.2 1) (f41_keys_Keys_Out_out r79_0), FnOK Go.Proofs.Try.prog 42 (f42_keys_Keys_In_in r20_0.1 r20_0.2.1 r20_0.2.2.1 r20_0.2.2.2.1 r20_0.2.2.2.2.1 r20_0.2.2.2.2.2.1 r20_0.2.2.2.2.2.2.1 r20_0.2.2.2.2.2.2.2.1 r20_0.2.2.2.2.2.2.2.2 2) (f42_keys_Keys_In_out r79_1), (((r79_0.1 : Int) == r79_1.1) && ((r79_0.2 : Int) == r79_1.2)) = false] (by kernel_rfl) ⟨(f41_keys_Keys_Out_ok r20_0.1 r20_0.2.1 r20_0.2.2.1 r20_0.2.2.2.1 r20_0.2.2.2.2.1 r20_0.2.2.2.2.2.1 r20_0.2.2.2.2.2.2.1 r20_0.2.2.2.2.2.2.2.1 r20_0.2.2.2.2.2.2.2.2 1 r79_0 cr79_0), (f42_keys_Keys_In_ok r20_0.1 r20_0.2.1 r20_0.2.2.1 r20_0.2.2.2.1 r20_0.2.2.2.2.1 r20_0.2.2.2.2.2.1 r20_0.2.2.2.2.2.2.1 r20_0.2.2.2.2.2.2.2.1 r20_0.2.2.2.2.2.2.2.2 2 r79_1 cr79_1), b79_5, trivial⟩
/-! brougham/broughamlaw09.KeysRoles -/
def f10_broughamlaw09_KeysRoles_in (k_0 : Int) (k_1 : Int) (k_2 : Int) (k_3 : Int) (k_4 : Int) (k_5 : Int) (k_6 : Int) (k_7 : Int) (k_8 : Int) (r_ : Int) : Inn := ⟨[.agg [.d (.int .u64 k_0), .d (.int .u64 k_1), .d (.int .u64 k_2), .d (.int .u64 k_3), .d (.int .u64 k_4), .d (.int .u64 k_5), .d (.int .u64 k_6), .d (.int .u64 k_7), .d (.int .u32 k_8)], .c (.d (.int .i64 r_))], [], [], 0⟩
def f10_broughamlaw09_KeysRoles_out (r : Bool) : Out := ⟨.one (.c (.d (.bool r))), [], [], 0⟩
def f10_broughamlaw09_KeysRoles (n : Nat) (k_0 : Int) (k_1 : Int) (k_2 : Int) (k_3 : Int) (k_4 : Int) (k_5 : Int) (k_6 : Int) (k_7 : Int) (k_8 : Int) (r_ : Int) : Option (Bool) :=
  (f40_keys_Other r_).bind fun r2_0 =>
  if ((r_ : Int) == 1) = true then
    (f41_keys_Keys_Out k_0 k_1 k_2 k_3 k_4 k_5 k_6 k_7 k_8 r_).bind fun r10_0 =>
    (f42_keys_Keys_In k_0 k_1 k_2 k_3 k_4 k_5 k_6 k_7 k_8 r2_0).bind fun r10_1 =>
    if (((r10_0.1 : Int) == r10_1.1) && ((r10_0.2 : Int) == r10_1.2)) = true then
      (f41_keys_Keys_Out k_0 k_1 k_2 k_3 k_4 k_5 k_6 k_7 k_8 r_).bind fun r10_2 =>
      if (((r10_2.1 : Int) == k_2) && ((r10_2.2 : Int) == k_3)) = true then
        (f40_keys_Other r2_0).bind fun r10_3 =>
        if ((r10_3 : Int) == r_) = true then
          if (((r2_0 : Int) == 1) == ((r_ : Int) != 1)) = true then
            (f43_broughamlaw09_alive n).bind fun r10_4 =>
            some r10_4
          else
            some false
        else
          if ((r_ : Int) != 1) = true then
            if ((r_ : Int) != 2) = true then
              if (((r2_0 : Int) == 1) == ((r_ : Int) != 1)) = true then
                (f43_broughamlaw09_alive n).bind fun r10_4 =>
                some r10_4
              else
                some false
            else
              some false
          else
            some false
      else
        some false
    else
      some false
  else
    (f41_keys_Keys_Out k_0 k_1 k_2 k_3 k_4 k_5 k_6 k_7 k_8 r_).bind fun r80_0 =>
    (f42_keys_Keys_In k_0 k_1 k_2 k_3 k_4 k_5 k_6 k_7 k_8 r2_0).bind fun r80_1 =>
    if (((r80_0.1 : Int) == r80_1.1) && ((r80_0.2 : Int) == r80_1.2)) = true then
      (f41_keys_Keys_Out k_0 k_1 k_2 k_3 k_4 k_5 k_6 k_7 k_8 r_).bind fun r80_2 =>
      if (((r80_2.1 : Int) == k_4) && ((r80_2.2 : Int) == k_5)) = true then
        (f40_keys_Other r2_0).bind fun r80_3 =>
        if ((r80_3 : Int) == r_) = true then
          if (((r2_0 : Int) == 1) == ((r_ : Int) != 1)) = true then
            (f43_broughamlaw09_alive n).bind fun r80_4 =>
            some r80_4
          else
            some false
        else
          if ((r_ : Int) != 1) = true then
            if ((r_ : Int) != 2) = true then
              if (((r2_0 : Int) == 1) == ((r_ : Int) != 1)) = true then
                (f43_broughamlaw09_alive n).bind fun r80_4 =>
                some r80_4
              else
                some false
            else
              some false
          else
            some false
      else
        some false
    else
      some false
theorem f10_broughamlaw09_KeysRoles_ok (n : Nat) (k_0 : Int) (k_1 : Int) (k_2 : Int) (k_3 : Int) (k_4 : Int) (k_5 : Int) (k_6 : Int) (k_7 : Int) (k_8 : Int) (r_ : Int) (r : Bool) (h : f10_broughamlaw09_KeysRoles n k_0 k_1 k_2 k_3 k_4 k_5 k_6 k_7 k_8 r_ = some r) : FnOK Go.Proofs.Try.prog 10 (f10_broughamlaw09_KeysRoles_in k_0 k_1 k_2 k_3 k_4 k_5 k_6 k_7 k_8 r_) (f10_broughamlaw09_KeysRoles_out r) := by
  unfold f10_broughamlaw09_KeysRoles at h
  refine At.fn (r := 0) Go.Proofs.Try.func10 rfl (by kernel_rfl) rfl rfl (by kernel_rfl) ?_
  show At Go.Proofs.Try.prog Go.Proofs.Try.f10 0 0 ⟨[(0, .one (.agg [.d (.int .u64 k_0), .d (.int .u64 k_1), .d (.int .u64 k_2), .d (.int .u64 k_3), .d (.int .u64 k_4), .d (.int .u64 k_5), .d (.int .u64 k_6), .d (.int .u64 k_7), .d (.int .u32 k_8)])), (1, .one (.c (.d (.int .i64 r_))))], [], [], 0⟩ _
  refine At.step hm ht ⟨[], [], [], [1, 2], [0]⟩ 1 ⟨[(1, .one (.c (.d (.int .i64 r_)))), (2, .one (.c (.ptr 0 0)))], [], [(0, [.d (.int .u64 k_0), .d (.int .u64 k_1), .d (.int .u64 k_2), .d (.int .u64 k_3), .d (.int .u64 k_4), .d (.int .u64 k_5), .d (.int .u64 k_6), .d (.int .u64 k_7), .d (.int .u32 k_8)])], 1⟩ [] (by kernel_rfl) trivial ?_
  obtain ⟨r2_0, cr2_0, h⟩ := bindS h
  refine At.step hm ht ⟨[(1, .call [] [] (f40_keys_Other_out r2_0))], [], [], [1, 2, 5], [0]⟩ 2 ⟨[(1, .one (.c (.d (.int .i64 r_)))), (2, .one (.c (.ptr 0 0))), (5, .one (.c (.d (.int .i64 r2_0))))], [], [(0, [.d (.int .u64 k_0), .d (.int .u64 k_1), .d (.int .u64 k_2), .d (.int .u64 k_3), .d (.int .u64 k_4), .d (.int .u64 k_5), .d (.int .u64 k_6), .d (.int .u64 k_7), .d (.int .u32 k_8)])], 1⟩ [FnOK Go.Proofs.Try.prog 40 (f40_keys_Other_in r_) (f40_keys_Other_out r2_0)] (by kernel_rfl) ⟨(f40_keys_Other_ok r_ r2_0 cr2_0), trivial⟩ ?_
  refine At.step hm ht ⟨[], [], [], [1, 2, 5, 6], [0, 3]⟩ 3 ⟨[(1, .one (.c (.d (.int .i64 r_)))), (2, .one (.c (.ptr 0 0))), (5, .one (.c (.d (.int .i64 r2_0)))), (6, .one (.c (.ptr 1 0)))], [], [(0, [.d (.int .u64 k_0), .d (.int .u64 k_1), .d (.int .u64 k_2), .d (.int .u64 k_3), .d (.int .u64 k_4), .d (.int .u64 k_5), .d (.int .u64 k_6), .d (.int .u64 k_7), .d (.int .u32 k_8)]), (1, [.d (.int .u64 k_4), .d (.int .u64 k_5)])], 2⟩ [0 + 2 ≤ 2] (by kernel_rfl) ⟨(by decide), trivial⟩ ?_
  rcases iteS h with ⟨b8_e0, h⟩ | ⟨b8_e0, h⟩
  · refine At.step hm ht ⟨[], [true], [], [1, 2, 5, 6], [0, 1]⟩ 4 ⟨[(1, .one (.c (.d (.int .i64 r_)))), (2, .one (.c (.ptr 0 0))), (5, .one (.c (.d (.int .i64 r2_0)))), (6, .one (.c (.ptr 1 0)))], [], [(0, [.d (.int .u64 k_0), .d (.int .u64 k_1), .d (.int .u64 k_2), .d (.int .u64 k_3), .d (.int .u64 k_4), .d (.int .u64 k_5), .d (.int .u64 k_6), .d (.int .u64 k_7), .d (.int .u32 k_8)]), (1, [.d (.int .u64 k_4), .d (.int .u64 k_5)])], 2⟩ [((r_ : Int) == 1) = true] (by kernel_rfl) ⟨b8_e0, trivial⟩ ?_
    refine At.step hm ht ⟨[], [], [], [1, 2, 5, 6], [0, 1]⟩ 5 ⟨[(1, .one (.c (.d (.int .i64 r_)))), (2, .one (.c (.ptr 0 0))), (5, .one (.c (.d (.int .i64 r2_0)))), (6, .one (.c (.ptr 1 0)))], [], [(0, [.d (.int .u64 k_0), .d (.int .u64 k_1), .d (.int .u64 k_2), .d (.int .u64 k_3), .d (.int .u64 k_4), .d (.int .u64 k_5), .d (.int .u64 k_6), .d (.int .u64 k_7), .d (.int .u32 k_8)]), (1, [.d (.int .u64 k_2), .d (.int .u64 k_3)])], 2⟩ [0 + 2 ≤ 2] (by kernel_rfl) ⟨(by decide), trivial⟩ ?_
    obtain ⟨r10_0, cr10_0, h⟩ := bindS h
    obtain ⟨r10_1, cr10_1, h⟩ := bindS h
    rcases iteS h with ⟨b10_7, h⟩ | ⟨b10_7, h⟩
    · obtain ⟨r10_2, cr10_2, h⟩ := bindS h
      rcases iteS h with ⟨b10_14, h⟩ | ⟨b10_14, h⟩
      · obtain ⟨r10_3, cr10_3, h⟩ := bindS h
        rcases iteS h with ⟨b10_19, h⟩ | ⟨b10_19, h⟩
        · rcases iteS h with ⟨b10_35, h⟩ | ⟨b10_35, h⟩
          · obtain ⟨r10_4, cr10_4, h⟩ := bindS h
            have h := Option.some.inj h
            subst h
            exact At.fin hm ht ⟨[(2, .call [] [] (f41_keys_Keys_Out_out r10_0)), (5, .call [] [] (f42_keys_Keys_In_out r10_1)), (7, .b true), (10, .call [] [] (f41_keys_Keys_Out_out r10_2)), (14, .b true), (16, .call [] [] (f40_keys_Other_out r10_3)), (19, .b true), (35, .b true), (36, .call [] [] (f43_broughamlaw09_alive_out r10_4))], [], [], [4], []⟩ [FnOK Go.Proofs.Try.prog 41 (f41_keys_Keys_Out_in k_0 k_1 k_2 k_3 k_4 k_5 k_6 k_7 k_8 r_) (f41_keys_Keys_Out_out r10_0), FnOK Go.Proofs.Try.prog 42 (f42_keys_Keys_In_in k_0 k_1 k_2 k_3 k_4 k_5 k_6 k_7 k_8 r2_0) (f42_keys_Keys_In_out r10_1), (((r10_0.1 : Int) == r10_1.1) && ((r10_0.2 : Int) == r10_1.2)) = true, FnOK Go.Proofs.Try.prog 41 (f41_keys_Keys_Out_in k_0 k_1 k_2 k_3 k_4 k_5 k_6 k_7 k_8 r_) (f41_keys_Keys_Out_out r10_2), (((r10_2.1 : Int) == k_2) && ((r10_2.2 : Int) == k_3)) = true, FnOK Go.Proofs.Try.prog 40 (f40_keys_Other_in r2_0) (f40_keys_Other_out r10_3), ((r10_3 : Int) == r_) = true, (((r2_0 : Int) == 1) == ((r_ : Int) != 1)) = true, FnOK Go.Proofs.Try.prog 43 (f43_broughamlaw09_alive_in) (f43_broughamlaw09_alive_out r10_4)] (by kernel_rfl) ⟨(f41_keys_Keys_Out_ok k_0 k_1 k_2 k_3 k_4 k_5 k_6 k_7 k_8 r_ r10_0 cr10_0), (f42_keys_Keys_In_ok k_0 k_1 k_2 k_3 k_4 k_5 k_6 k_7 k_8 r2_0 r10_1 cr10_1), b10_7, (f41_keys_Keys_Out_ok k_0 k_1 k_2 k_3 k_4 k_5 k_6 k_7 k_8 r_ r10_2 cr10_2), b10_14, (f40_keys_Other_ok r2_0 r10_3 cr10_3), b10_19, b10_35, (f43_broughamlaw09_alive_ok n r10_4 cr10_4), trivial⟩
          · have h := Option.some.inj h
            subst h
            exact At.fin hm ht ⟨[(2, .call [] [] (f41_keys_Keys_Out_out r10_0)), (5, .call [] [] (f42_keys_Keys_In_out r10_1)), (7, .b true), (10, .call [] [] (f41_keys_Keys_Out_out r10_2)), (14, .b true), (16, .call [] [] (f40_keys_Other_out r10_3)), (19, .b true), (35, .b false)], [], [], [4], []⟩ [FnOK Go.Proofs.Try.prog 41 (f41_keys_Keys_Out_in k_0 k_1 k_2 k_3 k_4 k_5 k_6 k_7 k_8 r_) (f41_keys_Keys_Out_out r10_0), FnOK Go.Proofs.Try.prog 42 (f42_keys_Keys_In_in k_0 k_1 k_2 k_3 k_4 k_5 k_6 k_7 k_8 r2_0) (f42_keys_Keys_In_out r10_1), (((r10_0.1 : Int) == r10_1.1) && ((r10_0.2 : Int) == r10_1.2)) = true, FnOK Go.Proofs.Try.prog 41 (f41_keys_Keys_Out_in k_0 k_1 k_2 k_3 k_4 k_5 k_6 k_7 k_8 r_) (f41_keys_Keys_Out_out r10_2), (((r10_2.1 : Int) == k_2) && ((r10_2.2 : Int) == k_3)) = true, FnOK Go.Proofs.Try.prog 40 (f40_keys_Other_in r2_0) (f40_keys_Other_out r10_3), ((r10_3 : Int) == r_) = true, (((r2_0 : Int) == 1) == ((r_ : Int) != 1)) = false] (by kernel_rfl) ⟨(f41_keys_Keys_Out_ok k_0 k_1 k_2 k_3 k_4 k_5 k_6 k_7 k_8 r_ r10_0 cr10_0), (f42_keys_Keys_In_ok k_0 k_1 k_2 k_3 k_4 k_5 k_6 k_7 k_8 r2_0 r10_1 cr10_1), b10_7, (f41_keys_Keys_Out_ok k_0 k_1 k_2 k_3 k_4 k_5 k_6 k_7 k_8 r_ r10_2 cr10_2), b10_14, (f40_keys_Other_ok r2_0 r10_3 cr10_3), b10_19, b10_35, trivial⟩
        · rcases iteS h with ⟨b10_22, h⟩ | ⟨b10_22, h⟩
          · rcases iteS h with ⟨b10_28, h⟩ | ⟨b10_28, h⟩
            · rcases iteS h with ⟨b10_35, h⟩ | ⟨b10_35, h⟩
              · obtain ⟨r10_4, cr10_4, h⟩ := bindS h
                have h := Option.some.inj h
                subst h
                exact At.fin hm ht ⟨[(2, .call [] [] (f41_keys_Keys_Out_out r10_0)), (5, .call [] [] (f42_keys_Keys_In_out r10_1)), (7, .b true), (10, .call [] [] (f41_keys_Keys_Out_out r10_2)), (14, .b true), (16, .call [] [] (f40_keys_Other_out r10_3)), (19, .b false), (22, .b true), (28, .b true), (35, .b true), (36, .call [] [] (f43_broughamlaw09_alive_out r10_4))], [], [], [4], []⟩ [FnOK Go.Proofs.Try.prog 41 (f41_keys_Keys_Out_in k_0 k_1 k_2 k_3 k_4 k_5 k_6 k_7 k_8 r_) (f41_keys_Keys_Out_out r10_0), FnOK Go.Proofs.Try.prog 42 (f42_keys_Keys_In_in k_0 k_1 k_2 k_3 k_4 k_5 k_6 k_7 k_8 r2_0) (f42_keys_Keys_In_out r10_1), (((r10_0.1 : Int) == r10_1.1) && ((r10_0.2 : Int) == r10_1.2)) = true, FnOK Go.Proofs.Try.prog 41 (f41_keys_Keys_Out_in k_0 k_1 k_2 k_3 k_4 k_5 k_6 k_7 k_8 r_) (f41_keys_Keys_Out_out r10_2), (((r10_2.1 : Int) == k_2) && ((r10_2.2 : Int) == k_3)) = true, FnOK Go.Proofs.Try.prog 40 (f40_keys_Other_in r2_0) (f40_keys_Other_out r10_3), ((r10_3 : Int) == r_) = false, ((r_ : Int) != 1) = true, ((r_ : Int) != 2) = true, (((r2_0 : Int) == 1) == ((r_ : Int) != 1)) = true, FnOK Go.Proofs.Try.prog 43 (f43_broughamlaw09_alive_in) (f43_broughamlaw09_alive_out r10_4)] (by kernel_rfl) ⟨(f41_keys_Keys_Out_ok k_0 k_1 k_2 k_3 k_4 k_5 k_6 k_7 k_8 r_ r10_0 cr10_0), (f42_keys_Keys_In_ok k_0 k_1 k_2 k_3 k_4 k_5 k_6 k_7 k_8 r2_0 r10_1 cr10_1), b10_7, (f41_keys_Keys_Out_ok k_0 k_1 k_2 k_3 k_4 k_5 k_6 k_7 k_8 r_ r10_2 cr10_2), b10_14, (f40_keys_Other_ok r2_0 r10_3 cr10_3), b10_19, b10_22, b10_28, b10_35, (f43_broughamlaw09_alive_ok n r10_4 cr10_4), trivial⟩
              · have h := Option.some.inj h
                subst h
                exact At.fin hm ht ⟨[(2, .call [] [] (f41_keys_Keys_Out_out r10_0)), (5, .call [] [] (f42_keys_Keys_In_out r10_1)), (7, .b true), (10, .call [] [] (f41_keys_Keys_Out_out r10_2)), (14, .b true), (16, .call [] [] (f40_keys_Other_out r10_3)), (19, .b false), (22, .b true), (28, .b true), (35, .b false)], [], [], [4], []⟩ [FnOK Go.Proofs.Try.prog 41 (f41_keys_Keys_Out_in k_0 k_1 k_2 k_3 k_4 k_5 k_6 k_7 k_8 r_) (f41_keys_Keys_Out_out r10_0), FnOK Go.Proofs.Try.prog 42 (f42_keys_Keys_In_in k_0 k_1 k_2 k_3 k_4 k_5 k_6 k_7 k_8 r2_0) (f42_keys_Keys_In_out r10_1), (((r10_0.1 : Int) == r10_1.1) && ((r10_0.2 : Int) == r10_1.2)) = true, FnOK Go.Proofs.Try.prog 41 (f41_keys_Keys_Out_in k_0 k_1 k_2 k_3 k_4 k_5 k_6 k_7 k_8 r_) (f41_keys_Keys_Out_out r10_2), (((r10_2.1 : Int) == k_2) && ((r10_2.2 : Int) == k_3)) = true, FnOK Go.Proofs.Try.prog 40 (f40_keys_Other_in r2_0) (f40_keys_Other_out r10_3), ((r10_3 : Int) == r_) = false, ((r_ : Int) != 1) = true, ((r_ : Int) != 2) = true, (((r2_0 : Int) == 1) == ((r_ : Int) != 1)) = false] (by kernel_rfl) ⟨(f41_keys_Keys_Out_ok k_0 k_1 k_2 k_3 k_4 k_5 k_6 k_7 k_8 r_ r10_0 cr10_0), (f42_keys_Keys_In_ok k_0 k_1 k_2 k_3 k_4 k_5 k_6 k_7 k_8 r2_0 r10_1 cr10_1), b10_7, (f41_keys_Keys_Out_ok k_0 k_1 k_2 k_3 k_4 k_5 k_6 k_7 k_8 r_ r10_2 cr10_2), b10_14, (f40_keys_Other_ok r2_0 r10_3 cr10_3), b10_19, b10_22, b10_28, b10_35, trivial⟩
            · have h := Option.some.inj h
              subst h
              exact At.fin hm ht ⟨[(2, .call [] [] (f41_keys_Keys_Out_out r10_0)), (5, .call [] [] (f42_keys_Keys_In_out r10_1)), (7, .b true), (10, .call [] [] (f41_keys_Keys_Out_out r10_2)), (14, .b true), (16, .call [] [] (f40_keys_Other_out r10_3)), (19, .b false), (22, .b true), (28, .b false)], [], [], [4], []⟩ [FnOK Go.Proofs.Try.prog 41 (f41_keys_Keys_Out_in k_0 k_1 k_2 k_3 k_4 k_5 k_6 k_7 k_8 r_) (f41_keys_Keys_Out_out r10_0), FnOK Go.Proofs.Try.prog 42 (f42_keys_Keys_In_in k_0 k_1 k_2 k_3 k_4 k_5 k_6 k_7 k_8 r2_0) (f42_keys_Keys_In_out r10_1), (((r10_0.1 : Int) == r10_1.1) && ((r10_0.2 : Int) == r10_1.2)) = true, FnOK Go.Proofs.Try.prog 41 (f41_keys_Keys_Out_in k_0 k_1 k_2 k_3 k_4 k_5 k_6 k_7 k_8 r_) (f41_keys_Keys_Out_out r10_2), (((r10_2.1 : Int) == k_2) && ((r10_2.2 : Int) == k_3)) = true, FnOK Go.Proofs.Try.prog 40 (f40_keys_Other_in r2_0) (f40_keys_Other_out r10_3), ((r10_3 : Int) == r_) = false, ((r_ : Int) != 1) = true, ((r_ : Int) != 2) = false] (by kernel_rfl) ⟨(f41_keys_Keys_Out_ok k_0 k_1 k_2 k_3 k_4 k_5 k_6 k_7 k_8 r_ r10_0 cr10_0), (f42_keys_Keys_In_ok k_0 k_1 k_2 k_3 k_4 k_5 k_6 k_7 k_8 r2_0 r10_1 cr10_1), b10_7, (f41_keys_Keys_Out_ok k_0 k_1 k_2 k_3 k_4 k_5 k_6 k_7 k_8 r_ r10_2 cr10_2), b10_14, (f40_keys_Other_ok r2_0 r10_3 cr10_3), b10_19, b10_22, b10_28, trivial⟩
          · have h := Option.some.inj h
            subst h
            exact At.fin hm ht ⟨[(2, .call [] [] (f41_keys_Keys_Out_out r10_0)), (5, .call [] [] (f42_keys_Keys_In_out r10_1)), (7, .b true), (10, .call [] [] (f41_keys_Keys_Out_out r10_2)), (14, .b true), (16, .call [] [] (f40_keys_Other_out r10_3)), (19, .b false), (22, .b false)], [], [], [4], []⟩ [FnOK Go.Proofs.Try.prog 41 (f41_keys_Keys_Out_in k_0 k_1 k_2 k_3 k_4 k_5 k_6 k_7 k_8 r_) (f41_keys_Keys_Out_out r10_0), FnOK Go.Proofs.Try.prog 42 (f42_keys_Keys_In_in k_0 k_1 k_2 k_3 k_4 k_5 k_6 k_7 k_8 r2_0) (f42_keys_Keys_In_out r10_1), (((r10_0.1 : Int) == r10_1.1) && ((r10_0.2 : Int) == r10_1.2)) = true, FnOK Go.Proofs.Try.prog 41 (f41_keys_Keys_Out_in k_0 k_1 k_2 k_3 k_4 k_5 k_6 k_7 k_8 r_) (f41_keys_Keys_Out_out r10_2), (((r10_2.1 : Int) == k_2) && ((r10_2.2 : Int) == k_3)) = true, FnOK Go.Proofs.Try.prog 40 (f40_keys_Other_in r2_0) (f40_keys_Other_out r10_3), ((r10_3 : Int) == r_) = false, ((r_ : Int) != 1) = false] (by kernel_rfl) ⟨(f41_keys_Keys_Out_ok k_0 k_1 k_2 k_3 k_4 k_5 k_6 k_7 k_8 r_ r10_0 cr10_0), (f42_keys_Keys_In_ok k_0 k_1 k_2 k_3 k_4 k_5 k_6 k_7 k_8 r2_0 r10_1 cr10_1), b10_7, (f41_keys_Keys_Out_ok k_0 k_1 k_2 k_3 k_4 k_5 k_6 k_7 k_8 r_ r10_2 cr10_2), b10_14, (f40_keys_Other_ok r2_0 r10_3 cr10_3), b10_19, b10_22, trivial⟩
      · have h := Option.some.inj h
        subst h
        exact At.fin hm ht ⟨[(2, .call [] [] (f41_keys_Keys_Out_out r10_0)), (5, .call [] [] (f42_keys_Keys_In_out r10_1)), (7, .b true), (10, .call [] [] (f41_keys_Keys_Out_out r10_2)), (14, .b false)], [], [], [4], []⟩ [FnOK Go.Proofs.Try.prog 41 (f41_keys_Keys_Out_in k_0 k_1 k_2 k_3 k_4 k_5 k_6 k_7 k_8 r_) (f41_keys_Keys_Out_out r10_0), FnOK Go.Proofs.Try.prog 42 (f42_keys_Keys_In_in k_0 k_1 k_2 k_3 k_4 k_5 k_6 k_7 k_8 r2_0) (f42_keys_Keys_In_out r10_1), (((r10_0.1 : Int) == r10_1.1) && ((r10_0.2 : Int) == r10_1.2)) = true, FnOK Go.Proofs.Try.prog 41 (f41_keys_Keys_Out_in k_0 k_1 k_2 k_3 k_4 k_5 k_6 k_7 k_8 r_) (f41_keys_Keys_Out_out r10_2), (((r10_2.1 : Int) == k_2) && ((r10_2.2 : Int) == k_3)) = false] (by kernel_rfl) ⟨(f41_keys_Keys_Out_ok k_0 k_1 k_2 k_3 k_4 k_5 k_6 k_7 k_8 r_ r10_0 cr10_0), (f42_keys_Keys_In_ok k_0 k_1 k_2 k_3 k_4 k_5 k_6 k_7 k_8 r2_0 r10_1 cr10_1), b10_7, (f41_keys_Keys_Out_ok k_0 k_1 k_2 k_3 k_4 k_5 k_6 k_7 k_8 r_ r10_2 cr10_2), b10_14, trivial⟩
    · have h := Option.some.inj h
      subst h
      exact At.fin hm ht ⟨[(2, .call [] [] (f41_keys_Keys_Out_out r10_0)), (5, .call [] [] (f42_keys_Keys_In_out r10_1)), (7, .b false)], [], [], [4], []⟩ [FnOK Go.Proofs.Try.prog 41 (f41_keys_Keys_Out_in k_0 k_1 k_2 k_3 k_4 k_5 k_6 k_7 k_8 r_) (f41_keys_Keys_Out_out r10_0), FnOK Go.Proofs.Try.prog 42 (f42_keys_Keys_In_in k_0 k_1 k_2 k_3 k_4 k_5 k_6 k_7 k_8 r2_0) (f42_keys_Keys_In_out r10_1), (((r10_0.1 : Int) == r10_1.1) && ((r10_0.2 : Int) == r10_1.2)) = false] (by kernel_rfl) ⟨(f41_keys_Keys_Out_ok k_0 k_1 k_2 k_3 k_4 k_5 k_6 k_7 k_8 r_ r10_0 cr10_0), (f42_keys_Keys_In_ok k_0 k_1 k_2 k_3 k_4 k_5 k_6 k_7 k_8 r2_0 r10_1 cr10_1), b10_7, trivial⟩
  · refine At.step hm ht ⟨[], [false], [], [1, 2, 5, 6], [0, 1]⟩ 5 ⟨[(1, .one (.c (.d (.int .i64 r_)))), (2, .one (.c (.ptr 0 0))), (5, .one (.c (.d (.int .i64 r2_0)))), (6, .one (.c (.ptr 1 0)))], [], [(0, [.d (.int .u64 k_0), .d (.int .u64 k_1), .d (.int .u64 k_2), .d (.int .u64 k_3), .d (.int .u64 k_4), .d (.int .u64 k_5), .d (.int .u64 k_6), .d (.int .u64 k_7), .d (.int .u32 k_8)]), (1, [.d (.int .u64 k_4), .d (.int .u64 k_5)])], 2⟩ [((r_ : Int) == 1) = false] (by kernel_rfl) ⟨b8_e0, trivial⟩ ?_
    obtain ⟨r80_0, cr80_0, h⟩ := bindS h
    obtain ⟨r80_1, cr80_1, h⟩ := bindS h
    rcases iteS h with ⟨b80_7, h⟩ | ⟨b80_7, h⟩
    · obtain ⟨r80_2, cr80_2, h⟩ := bindS h
      rcases iteS h with ⟨b80_14, h⟩ | ⟨b80_14, h⟩
      · obtain ⟨r80_3, cr80_3, h⟩ := bindS h
        rcases iteS h with ⟨b80_19, h⟩ | ⟨b80_19, h⟩
        · rcases iteS h with ⟨b80_35, h⟩ | ⟨b80_35, h⟩
          · obtain ⟨r80_4, cr80_4, h⟩ := bindS h
            have h := Option.some.inj h
            subst h
            exact At.fin hm ht ⟨[(2, .call [] [] (f41_keys_Keys_Out_out r80_0)), (5, .call [] [] (f42_keys_Keys_In_out r80_1)), (7, .b true), (10, .call [] [] (f41_keys_Keys_Out_out r80_2)), (14, .b true), (16, .call [] [] (f40_keys_Other_out r80_3)), (19, .b true), (35, .b true), (36, .call [] [] (f43_broughamlaw09_alive_out r80_4))], [], [], [4], []⟩ [FnOK Go.Proofs.Try.prog 41 (f41_keys_Keys_Out_in k_0 k_1 k_2 k_3 k_4 k_5 k_6 k_7 k_8 r_) (f41_keys_Keys_Out_out r80_0), FnOK Go.Proofs.Try.prog 42 (f42_keys_Keys_In_in k_0 k_1 k_2 k_3 k_4 k_5 k_6 k_7 k_8 r2_0) (f42_keys_Keys_In_out r80_1), (((r80_0.1 : Int) == r80_1.1) && ((r80_0.2 : Int) == r80_1.2)) = true, FnOK Go.Proofs.Try.prog 41 (f41_keys_Keys_Out_in k_0 k_1 k_2 k_3 k_4 k_5 k_6 k_7 k_8 r_) (f41_keys_Keys_Out_out r80_2), (((r80_2.1 : Int) == k_4) && ((r80_2.2 : Int) == k_5)) = true, FnOK Go.Proofs.Try.prog 40 (f40_keys_Other_in r2_0) (f40_keys_Other_out r80_3), ((r80_3 : Int) == r_) = true, (((r2_0 : Int) == 1) == ((r_ : Int) != 1)) = true, FnOK Go.Proofs.Try.prog 43 (f43_broughamlaw09_alive_in) (f43_broughamlaw09_alive_out r80_4)] (by kernel_rfl) ⟨(f41_keys_Keys_Out_ok k_0 k_1 k_2 k_3 k_4 k_5 k_6 k_7 k_8 r_ r80_0 cr80_0), (f42_keys_Keys_In_ok k_0 k_1 k_2 k_3 k_4 k_5 k_6 k_7 k_8 r2_0 r80_1 cr80_1), b80_7, (f41_keys_Keys_Out_ok k_0 k_1 k_2 k_3 k_4 k_5 k_6 k_7 k_8 r_ r80_2 cr80_2), b80_14, (f40_keys_Other_ok r2_0 r80_3 cr80_3), b80_19, b80_35, (f43_broughamlaw09_alive_ok n r80_4 cr80_4), trivial⟩
          · have h := Option.some.inj h
            subst h
            exact At.fin hm ht ⟨[(2, .call [] [] (f41_keys_Keys_Out_out r80_0)), (5, .call [] [] (f42_keys_Keys_In_out r80_1)), (7, .b true), (10, .call [] [] (f41_keys_Keys_Out_out r80_2)), (14, .b true), (16, .call [] [] (f40_keys_Other_out r80_3)), (19, .b true), (35, .b false)], [], [], [4], []⟩ [FnOK Go.Proofs.Try.prog 41 (f41_keys_Keys_Out_in k_0 k_1 k_2 k_3 k_4 k_5 k_6 k_7 k_8 r_) (f41_keys_Keys_Out_out r80_0), FnOK Go.Proofs.Try.prog 42 (f42_keys_Keys_In_in k_0 k_1 k_2 k_3 k_4 k_5 k_6 k_7 k_8 r2_0) (f42_keys_Keys_In_out r80_1), (((r80_0.1 : Int) == r80_1.1) && ((r80_0.2 : Int) == r80_1.2)) = true, FnOK Go.Proofs.Try.prog 41 (f41_keys_Keys_Out_in k_0 k_1 k_2 k_3 k_4 k_5 k_6 k_7 k_8 r_) (f41_keys_Keys_Out_out r80_2), (((r80_2.1 : Int) == k_4) && ((r80_2.2 : Int) == k_5)) = true, FnOK Go.Proofs.Try.prog 40 (f40_keys_Other_in r2_0) (f40_keys_Other_out r80_3), ((r80_3 : Int) == r_) = true, (((r2_0 : Int) == 1) == ((r_ : Int) != 1)) = false] (by kernel_rfl) ⟨(f41_keys_Keys_Out_ok k_0 k_1 k_2 k_3 k_4 k_5 k_6 k_7 k_8 r_ r80_0 cr80_0), (f42_keys_Keys_In_ok k_0 k_1 k_2 k_3 k_4 k_5 k_6 k_7 k_8 r2_0 r80_1 cr80_1), b80_7, (f41_keys_Keys_Out_ok k_0 k_1 k_2 k_3 k_4 k_5 k_6 k_7 k_8 r_ r80_2 cr80_2), b80_14, (f40_keys_Other_ok r2_0 r80_3 cr80_3), b80_19, b80_35, trivial⟩
        · rcases iteS h with ⟨b80_22, h⟩ | ⟨b80_22, h⟩
          · rcases iteS h with ⟨b80_28, h⟩ | ⟨b80_28, h⟩
            · rcases iteS h with ⟨b80_35, h⟩ | ⟨b80_35, h⟩
              · obtain ⟨r80_4, cr80_4, h⟩ := bindS h
                have h := Option.some.inj h
                subst h
                exact At.fin hm ht ⟨[(2, .call [] [] (f41_keys_Keys_Out_out r80_0)), (5, .call [] [] (f42_keys_Keys_In_out r80_1)), (7, .b true), (10, .call [] [] (f41_keys_Keys_Out_out r80_2)), (14, .b true), (16, .call [] [] (f40_keys_Other_out r80_3)), (19, .b false), (22, .b true), (28, .b true), (35, .b true), (36, .call [] [] (f43_broughamlaw09_alive_out r80_4))], [], [], [4], []⟩ [FnOK Go.Proofs.Try.prog 41 (f41_keys_Keys_Out_in k_0 k_1 k_2 k_3 k_4 k_5 k_6 k_7 k_8 r_) (f41_keys_Keys_Out_out r80_0), FnOK Go.Proofs.Try.prog 42 (f42_keys_Keys_In_in k_0 k_1 k_2 k_3 k_4 k_5 k_6 k_7 k_8 r2_0) (f42_keys_Keys_In_out r80_1), (((r80_0.1 : Int) == r80_1.1) && ((r80_0.2 : Int) == r80_1.2)) = true, FnOK Go.Proofs.Try.prog 41 (f41_keys_Keys_Out_in k_0 k_1 k_2 k_3 k_4 k_5 k_6 k_7 k_8 r_) (f41_keys_Keys_Out_out r80_2), (((r80_2.1 : Int) == k_4) && ((r80_2.2 : Int) == k_5)) = true, FnOK Go.Proofs.Try.prog 40 (f40_keys_Other_in r2_0) (f40_keys_Other_out r80_3), ((r80_3 : Int) == r_) = false, ((r_ : Int) != 1) = true, ((r_ : Int) != 2) = true, (((r2_0 : Int) == 1) == ((r_ : Int) != 1)) = true, FnOK Go.Proofs.Try.prog 43 (f43_broughamlaw09_alive_in) (f43_broughamlaw09_alive_out r80_4)] (by kernel_rfl) ⟨(f41_keys_Keys_Out_ok k_0 k_1 k_2 k_3 k_4 k_5 k_6 k_7 k_8 r_ r80_0 cr80_0), (f42_keys_Keys_In_ok k_0 k_1 k_2 k_3 k_4 k_5 k_6 k_7 k_8 r2_0 r80_1 cr80_1), b80_7, (f41_keys_Keys_Out_ok k_0 k_1 k_2 k_3 k_4 k_5 k_6 k_7 k_8 r_ r80_2 cr80_2), b80_14, (f40_keys_Other_ok r2_0 r80_3 cr80_3), b80_19, b80_22, b80_28, b80_35, (f43_broughamlaw09_alive_ok n r80_4 cr80_4), trivial⟩
              · have h := Option.some.inj h
                subst h
                exact At.fin hm ht ⟨[(2, .call [] [] (f41_keys_Keys_Out_out r80_0)), (5, .call [] [] (f42_keys_Keys_In_out r80_1)), (7, .b true), (10, .call [] [] (f41_keys_Keys_Out_out r80_2)), (14, .b true), (16, .call [] [] (f40_keys_Other_out r80_3)), (19, .b false), (22, .b true), (28, .b true), (35, .b false)], [], [], [4], []⟩ [FnOK Go.Proofs.Try.prog 41 (f41_keys_Keys_Out_in k_0 k_1 k_2 k_3 k_4 k_5 k_6 k_7 k_8 r_) (f41_keys_Keys_Out_out r80_0), FnOK Go.Proofs.Try.prog 42 (f42_keys_Keys_In_in k_0 k_1 k_2 k_3 k_4 k_5 k_6 k_7 k_8 r2_0) (f42_keys_Keys_In_out r80_1), (((r80_0.1 : Int) == r80_1.1) && ((r80_0.2 : Int) == r80_1.2)) = true, FnOK Go.Proofs.Try.prog 41 (f41_keys_Keys_Out_in k_0 k_1 k_2 k_3 k_4 k_5 k_6 k_7 k_8 r_) (f41_keys_Keys_Out_out r80_2), (((r80_2.1 : Int) == k_4) && ((r80_2.2 : Int) == k_5)) = true, FnOK Go.Proofs.Try.prog 40 (f40_keys_Other_in r2_0) (f40_keys_Other_out r80_3), ((r80_3 : Int) == r_) = false, ((r_ : Int) != 1) = true, ((r_ : Int) != 2) = true, (((r2_0 : Int) == 1) == ((r_ : Int) != 1)) = false] (by kernel_rfl) ⟨(f41_keys_Keys_Out_ok k_0 k_1 k_2 k_3 k_4 k_5 k_6 k_7 k_8 r_ r80_0 cr80_0), (f42_keys_Keys_In_ok k_0 k_1 k_2 k_3 k_4 k_5 k_6 k_7 k_8 r2_0 r80_1 cr80_1), b80_7, (f41_keys_Keys_Out_ok k_0 k_1 k_2 k_3 k_4 k_5 k_6 k_7 k_8 r_ r80_2 cr80_2), b80_14, (f40_keys_Other_ok r2_0 r80_3 cr80_3), b80_19, b80_22, b80_28, b80_35, trivial⟩
            · have h := Option.some.inj h
              subst h
              exact At.fin hm ht ⟨[(2, .call [] [] (f41_keys_Keys_Out_out r80_0)), (5, .call [] [] (f42_keys_Keys_In_out r80_1)), (7, .b true), (10, .call [] [] (f41_keys_Keys_Out_out r80_2)), (14, .b true), (16, .call [] [] (f40_keys_Other_out r80_3)), (19, .b false), (22, .b true), (28, .b false)], [], [], [4], []⟩ [FnOK Go.Proofs.Try.prog 41 (f41_keys_Keys_Out_in k_0 k_1 k_2 k_3 k_4 k_5 k_6 k_7 k_8 r_) (f41_keys_Keys_Out_out r80_0), FnOK Go.Proofs.Try.prog 42 (f42_keys_Keys_In_in k_0 k_1 k_2 k_3 k_4 k_5 k_6 k_7 k_8 r2_0) (f42_keys_Keys_In_out r80_1), (((r80_0.1 : Int) == r80_1.1) && ((r80_0.2 : Int) == r80_1.2)) = true, FnOK Go.Proofs.Try.prog 41 (f41_keys_Keys_Out_in k_0 k_1 k_2 k_3 k_4 k_5 k_6 k_7 k_8 r_) (f41_keys_Keys_Out_out r80_2), (((r80_2.1 : Int) == k_4) && ((r80_2.2 : Int) == k_5)) = true, FnOK Go.Proofs.Try.prog 40 (f40_keys_Other_in r2_0) (f40_keys_Other_out r80_3), ((r80_3 : Int) == r_) = false, ((r_ : Int) != 1) = true, ((r_ : Int) != 2) = false] (by kernel_rfl) ⟨(f41_keys_Keys_Out_ok k_0 k_1 k_2 k_3 k_4 k_5 k_6 k_7 k_8 r_ r80_0 cr80_0), (f42_keys_Keys_In_ok k_0 k_1 k_2 k_3 k_4 k_5 k_6 k_7 k_8 r2_0 r80_1 cr80_1), b80_7, (f41_keys_Keys_Out_ok k_0 k_1 k_2 k_3 k_4 k_5 k_6 k_7 k_8 r_ r80_2 cr80_2), b80_14, (f40_keys_Other_ok r2_0 r80_3 cr80_3), b80_19, b80_22, b80_28, trivial⟩
          · have h := Option.some.inj h
            subst h
            exact At.fin hm ht ⟨[(2, .call [] [] (f41_keys_Keys_Out_out r80_0)), (5, .call [] [] (f42_keys_Keys_In_out r80_1)), (7, .b true), (10, .call [] [] (f41_keys_Keys_Out_out r80_2)), (14, .b true), (16, .call [] [] (f40_keys_Other_out r80_3)), (19, .b false), (22, .b false)], [], [], [4], []⟩ [FnOK Go.Proofs.Try.prog 41 (f41_keys_Keys_Out_in k_0 k_1 k_2 k_3 k_4 k_5 k_6 k_7 k_8 r_) (f41_keys_Keys_Out_out r80_0), FnOK Go.Proofs.Try.prog 42 (f42_keys_Keys_In_in k_0 k_1 k_2 k_3 k_4 k_5 k_6 k_7 k_8 r2_0) (f42_keys_Keys_In_out r80_1), (((r80_0.1 : Int) == r80_1.1) && ((r80_0.2 : Int) == r80_1.2)) = true, FnOK Go.Proofs.Try.prog 41 (f41_keys_Keys_Out_in k_0 k_1 k_2 k_3 k_4 k_5 k_6 k_7 k_8 r_) (f41_keys_Keys_Out_out r80_2), (((r80_2.1 : Int) == k_4) && ((r80_2.2 : Int) == k_5)) = true, FnOK Go.Proofs.Try.prog 40 (f40_keys_Other_in r2_0) (f40_keys_Other_out r80_3), ((r80_3 : Int) == r_) = false, ((r_ : Int) != 1) = false] (by kernel_rfl) ⟨(f41_keys_Keys_Out_ok k_0 k_1 k_2 k_3 k_4 k_5 k_6 k_7 k_8 r_ r80_0 cr80_0), (f42_keys_Keys_In_ok k_0 k_1 k_2 k_3 k_4 k_5 k_6 k_7 k_8 r2_0 r80_1 cr80_1), b80_7, (f41_keys_Keys_Out_ok k_0 k_1 k_2 k_3 k_4 k_5 k_6 k_7 k_8 r_ r80_2 cr80_2), b80_14, (f40_keys_Other_ok r2_0 r80_3 cr80_3), b80_19, b80_22, trivial⟩
      · have h := Option.some.inj h
        subst h
        exact At.fin hm ht ⟨[(2, .call [] [] (f41_keys_Keys_Out_out r80_0)), (5, .call [] [] (f42_keys_Keys_In_out r80_1)), (7, .b true), (10, .call [] [] (f41_keys_Keys_Out_out r80_2)), (14, .b false)], [], [], [4], []⟩ [FnOK Go.Proofs.Try.prog 41 (f41_keys_Keys_Out_in k_0 k_1 k_2 k_3 k_4 k_5 k_6 k_7 k_8 r_) (f41_keys_Keys_Out_out r80_0), FnOK Go.Proofs.Try.prog 42 (f42_keys_Keys_In_in k_0 k_1 k_2 k_3 k_4 k_5 k_6 k_7 k_8 r2_0) (f42_keys_Keys_In_out r80_1), (((r80_0.1 : Int) == r80_1.1) && ((r80_0.2 : Int) == r80_1.2)) = true, FnOK Go.Proofs.Try.prog 41 (f41_keys_Keys_Out_in k_0 k_1 k_2 k_3 k_4 k_5 k_6 k_7 k_8 r_) (f41_keys_Keys_Out_out r80_2), (((r80_2.1 : Int) == k_4) && ((r80_2.2 : Int) == k_5)) = false] (by kernel_rfl) ⟨(f41_keys_Keys_Out_ok k_0 k_1 k_2 k_3 k_4 k_5 k_6 k_7 k_8 r_ r80_0 cr80_0), (f42_keys_Keys_In_ok k_0 k_1 k_2 k_3 k_4 k_5 k_6 k_7 k_8 r2_0 r80_1 cr80_1), b80_7, (f41_keys_Keys_Out_ok k_0 k_1 k_2 k_3 k_4 k_5 k_6 k_7 k_8 r_ r80_2 cr80_2), b80_14, trivial⟩
    · have h := Option.some.inj h
      subst h
      exact At.fin hm ht ⟨[(2, .call [] [] (f41_keys_Keys_Out_out r80_0)), (5, .call [] [] (f42_keys_Keys_In_out r80_1)), (7, .b false)], [], [], [4], []⟩ [FnOK Go.Proofs.Try.prog 41 (f41_keys_Keys_Out_in k_0 k_1 k_2 k_3 k_4 k_5 k_6 k_7 k_8 r_) (f41_keys_Keys_Out_out r80_0), FnOK Go.Proofs.Try.prog 42 (f42_keys_Keys_In_in k_0 k_1 k_2 k_3 k_4 k_5 k_6 k_7 k_8 r2_0) (f42_keys_Keys_In_out r80_1), (((r80_0.1 : Int) == r80_1.1) && ((r80_0.2 : Int) == r80_1.2)) = false] (by kernel_rfl) ⟨(f41_keys_Keys_Out_ok k_0 k_1 k_2 k_3 k_4 k_5 k_6 k_7 k_8 r_ r80_0 cr80_0), (f42_keys_Keys_In_ok k_0 k_1 k_2 k_3 k_4 k_5 k_6 k_7 k_8 r2_0 r80_1 cr80_1), b80_7, trivial⟩
/-! brougham/broughamref02.Put -/
def f85_broughamref02_Put_in (n_ : Int) (bytes : Int) : Inn := ⟨[.c (.d (.sl .unit [])), .c (.d (.int .u64 n_)), .c (.d (.int .i64 bytes))], [], [], 0⟩
def f85_broughamref02_Put_out (r : List Int) : Out := ⟨.one (.c (.own 0 (.int .u8) r)), [(0, ⟨5, 0⟩)], [], 1⟩
def f85_broughamref02_Put : Nat → Int → Int → Option (List Int)
  | 0, _, _ => none
  | n + 1, n_, bytes =>
    if (decide ((bytes : Int) < 1)) = true then
      some []
    else
      if (decide ((bytes : Int) > 8)) = true then
        some []
      else
        (f85_broughamref02_Put n (IntKind.wrap .u64 (Int.tdiv n_ 256)) (IntKind.wrap .i64 (bytes - 1))).bind fun r109_0 =>
        if r109_0.length + [(IntKind.wrap .u8 (Int.tmod n_ 256))].length ≤ maxLen ∧ (r109_0.length + [(IntKind.wrap .u8 (Int.tmod n_ 256))].length) * 1 ≤ 140737488355328 then
        some (r109_0 ++ [(IntKind.wrap .u8 (Int.tmod n_ 256))])
        else none
theorem f85_broughamref02_Put_ok (n : Nat) : ∀ (n_ : Int) (bytes : Int) (r : List Int) (h : f85_broughamref02_Put n n_ bytes = some r), FnOK Go.Proofs.Try.prog 85 (f85_broughamref02_Put_in n_ bytes) (f85_broughamref02_Put_out r) := by
  induction n with
  | zero => intro n_ bytes r h; rw [f85_broughamref02_Put] at h; cases h
  | succ n ih =>
    intro n_ bytes r h
    rw [f85_broughamref02_Put] at h
    refine At.fn (r := 0) Go.Proofs.Try.func85 rfl (by kernel_rfl) rfl rfl (by kernel_rfl) ?_
    show At Go.Proofs.Try.prog Go.Proofs.Try.f85 0 0 ⟨[(0, .one (.c (.d (.sl .unit [])))), (1, .one (.c (.d (.int .u64 n_)))), (2, .one (.c (.d (.int .i64 bytes))))], [], [], 0⟩ _
    refine At.step hm ht ⟨[], [], [], [0, 1, 2], []⟩ 1 ⟨[(0, .one (.c (.d (.sl .unit [])))), (1, .one (.c (.d (.int .u64 n_)))), (2, .one (.c (.d (.int .i64 bytes))))], [], [], 0⟩ [] (by kernel_rfl) trivial ?_
    rcases iteS h with ⟨b106_2, h⟩ | ⟨b106_2, h⟩
    · refine At.step hm ht ⟨[(2, .b true)], [true], [], [0], []⟩ 2 ⟨[(0, .one (.c (.d (.sl .unit []))))], [], [], 0⟩ [(decide ((bytes : Int) < 1)) = true, true = true] (by kernel_rfl) ⟨b106_2, rfl, trivial⟩ ?_
      have h := Option.some.inj h
      subst h
      exact At.fin hm ht ⟨[], [], [.nil false 6 0 (.int .u8) (some 5)], [6], [2]⟩ [] (by kernel_rfl) trivial
    · rcases iteS h with ⟨b106_e0, h⟩ | ⟨b106_e0, h⟩
      · refine At.step hm ht ⟨[(2, .b false)], [true], [], [0], []⟩ 2 ⟨[(0, .one (.c (.d (.sl .unit []))))], [], [], 0⟩ [(decide ((bytes : Int) < 1)) = false, (decide ((bytes : Int) > 8)) = true] (by kernel_rfl) ⟨b106_2, b106_e0, trivial⟩ ?_
        have h := Option.some.inj h
        subst h
        exact At.fin hm ht ⟨[], [], [.nil false 6 0 (.int .u8) (some 5)], [6], [2]⟩ [] (by kernel_rfl) trivial
      · refine At.step hm ht ⟨[(2, .b false)], [false], [], [0, 1, 2], []⟩ 3 ⟨[(0, .one (.c (.d (.sl .unit [])))), (1, .one (.c (.d (.int .u64 n_)))), (2, .one (.c (.d (.int .i64 bytes))))], [], [], 0⟩ [(decide ((bytes : Int) < 1)) = false, (decide ((bytes : Int) > 8)) = false] (by kernel_rfl) ⟨b106_2, b106_e0, trivial⟩ ?_
        obtain ⟨r109_0, cr109_0, h⟩ := bindS h
        refine At.step hm ht ⟨[(5, .call [] [] (f85_broughamref02_Put_out r109_0))], [], [], [0, 1], [5]⟩ 4 ⟨[(0, .one (.c (.own 0 (.int .u8) r109_0))), (1, .one (.c (.d (.int .u64 n_))))], [(0, some ⟨5, 0⟩)], [], 1⟩ [(256 : Int) ≠ 0, FnOK Go.Proofs.Try.prog 85 (f85_broughamref02_Put_in (IntKind.wrap .u64 (Int.tdiv n_ 256)) (IntKind.wrap .i64 (bytes - 1))) (f85_broughamref02_Put_out r109_0)] (by kernel_rfl) ⟨(by decide), (ih (IntKind.wrap .u64 (Int.tdiv n_ 256)) (IntKind.wrap .i64 (bytes - 1)) r109_0 cr109_0), trivial⟩ ?_
        obtain ⟨g110_0, h⟩ := ifS h
        have h := Option.some.inj h
        subst h
        exact At.fin hm ht ⟨[], [], [], [6], [6]⟩ [(256 : Int) ≠ 0, r109_0.length + [(IntKind.wrap .u8 (Int.tmod n_ 256))].length ≤ maxLen ∧ (r109_0.length + [(IntKind.wrap .u8 (Int.tmod n_ 256))].length) * 1 ≤ 140737488355328] (by kernel_rfl) ⟨(by decide), g110_0, trivial⟩
/-! brougham/broughamref03.left -/
def f140_broughamref03_left_in (x : Int) (by_ : Int) : Inn := ⟨[.c (.d (.int .u64 x)), .c (.d (.int .i64 by_))], [], [], 0⟩
def f140_broughamref03_left_out (r : Int) : Out := ⟨.one (.c (.d (.int .u64 r))), [], [], 0⟩
def f140_broughamref03_left (x : Int) (by_ : Int) : Option (Int) :=
  if (0 : Int) ≤ (IntKind.wrap .u64 by_) then
  if (0 : Int) ≤ (IntKind.wrap .u64 (IntKind.wrap .i64 (64 - by_))) then
  some (bits .or .u64 (IntKind.wrap .u64 (x * 2 ^ (min (IntKind.wrap .u64 by_).toNat (IntKind.bits .u64)))) (Int.fdiv x (2 ^ (min (IntKind.wrap .u64 (IntKind.wrap .i64 (64 - by_))).toNat (IntKind.bits .u64)))))
  else none
  else none
theorem f140_broughamref03_left_ok (x : Int) (by_ : Int) (r : Int) (h : f140_broughamref03_left x by_ = some r) : FnOK Go.Proofs.Try.prog 140 (f140_broughamref03_left_in x by_) (f140_broughamref03_left_out r) := by
  unfold f140_broughamref03_left at h
  refine At.fn (r := 0) Go.Proofs.Try.func140 rfl (by kernel_rfl) rfl rfl (by kernel_rfl) ?_
  show At Go.Proofs.Try.prog Go.Proofs.Try.f140 0 0 ⟨[(0, .one (.c (.d (.int .u64 x)))), (1, .one (.c (.d (.int .i64 by_))))], [], [], 0⟩ _
  refine At.step hm ht ⟨[], [], [], [0, 1], []⟩ 1 ⟨[(0, .one (.c (.d (.int .u64 x)))), (1, .one (.c (.d (.int .i64 by_))))], [], [], 0⟩ [] (by kernel_rfl) trivial ?_
  obtain ⟨g130_0, h⟩ := ifS h
  obtain ⟨g130_1, h⟩ := ifS h
  have h := Option.some.inj h
  subst h
  exact At.fin hm ht ⟨[], [], [], [4], []⟩ [(0 : Int) ≤ (IntKind.wrap .u64 by_), (0 : Int) ≤ (IntKind.wrap .u64 (IntKind.wrap .i64 (64 - by_)))] (by kernel_rfl) ⟨g130_0, g130_1, trivial⟩
/-! brougham/broughamref03.round -/
def f120_broughamref03_round_in (v__0 : Int) (v__1 : Int) (v__2 : Int) (v__3 : Int) : Inn := ⟨[.agg [.d (.int .u64 v__0), .d (.int .u64 v__1), .d (.int .u64 v__2), .d (.int .u64 v__3)]], [], [], 0⟩
def f120_broughamref03_round_out (r : Int × Int × Int × Int) : Out := ⟨.one (.agg [.d (.int .u64 r.1), .d (.int .u64 r.2.1), .d (.int .u64 r.2.2.1), .d (.int .u64 r.2.2.2)]), [], [(0, [.d (.int .u64 r.1), .d (.int .u64 r.2.1), .d (.int .u64 r.2.2.1), .d (.int .u64 r.2.2.2)])], 1⟩
def f120_broughamref03_round (v__0 : Int) (v__1 : Int) (v__2 : Int) (v__3 : Int) : Option (Int × Int × Int × Int) :=
  (f140_broughamref03_left v__1 13).bind fun r128_0 =>
  (f140_broughamref03_left (IntKind.wrap .u64 (v__0 + v__1)) 32).bind fun r131_0 =>
  (f140_broughamref03_left v__3 16).bind fun r133_0 =>
  (f140_broughamref03_left (bits .xor .u64 r133_0 (IntKind.wrap .u64 (v__2 + v__3))) 21).bind fun r135_0 =>
  (f140_broughamref03_left (bits .xor .u64 r128_0 (IntKind.wrap .u64 (v__0 + v__1))) 17).bind fun r137_0 =>
  (f140_broughamref03_left (IntKind.wrap .u64 ((IntKind.wrap .u64 (v__2 + v__3)) + (bits .xor .u64 r128_0 (IntKind.wrap .u64 (v__0 + v__1))))) 32).bind fun r138_0 =>
  some ((IntKind.wrap .u64 (r131_0 + (bits .xor .u64 r133_0 (IntKind.wrap .u64 (v__2 + v__3))))), (bits .xor .u64 r137_0 (IntKind.wrap .u64 ((IntKind.wrap .u64 (v__2 + v__3)) + (bits .xor .u64 r128_0 (IntKind.wrap .u64 (v__0 + v__1)))))), r138_0, (bits .xor .u64 r135_0 (IntKind.wrap .u64 (r131_0 + (bits .xor .u64 r133_0 (IntKind.wrap .u64 (v__2 + v__3)))))))
theorem f120_broughamref03_round_ok (v__0 : Int) (v__1 : Int) (v__2 : Int) (v__3 : Int) (r : Int × Int × Int × Int) (h : f120_broughamref03_round v__0 v__1 v__2 v__3 = some r) : FnOK Go.Proofs.Try.prog 120 (f120_broughamref03_round_in v__0 v__1 v__2 v__3) (f120_broughamref03_round_out r) := by
  unfold f120_broughamref03_round at h
  refine At.fn (r := 0) Go.Proofs.Try.func120 rfl (by kernel_rfl) rfl rfl (by kernel_rfl) ?_
  show At Go.Proofs.Try.prog Go.Proofs.Try.f120 0 0 ⟨[(0, .one (.agg [.d (.int .u64 v__0), .d (.int .u64 v__1), .d (.int .u64 v__2), .d (.int .u64 v__3)]))], [], [], 0⟩ _
  refine At.step hm ht ⟨[], [], [], [1, 2], [0, 1]⟩ 1 ⟨[(1, .one (.c (.ptr 0 0))), (2, .one (.c (.ptr 1 0)))], [], [(0, [.d (.int .u64 v__0), .d (.int .u64 v__1), .d (.int .u64 v__2), .d (.int .u64 v__3)]), (1, [.d (.int .u64 0), .d (.int .u64 0), .d (.int .u64 0), .d (.int .u64 0)])], 2⟩ [] (by kernel_rfl) trivial ?_
  refine At.step hm ht ⟨[], [], [], [1, 2], [0, 1]⟩ 2 ⟨[(1, .one (.c (.ptr 0 0))), (2, .one (.c (.ptr 1 0)))], [], [(0, [.d (.int .u64 (IntKind.wrap .u64 (v__0 + v__1))), .d (.int .u64 v__1), .d (.int .u64 v__2), .d (.int .u64 v__3)]), (1, [.d (.int .u64 0), .d (.int .u64 0), .d (.int .u64 0), .d (.int .u64 0)])], 2⟩ [0 + 1 ≤ 4] (by kernel_rfl) ⟨(by decide), trivial⟩ ?_
  obtain ⟨r128_0, cr128_0, h⟩ := bindS h
  refine At.step hm ht ⟨[(2, .call [] [] (f140_broughamref03_left_out r128_0))], [], [], [1, 2], [0, 1]⟩ 3 ⟨[(1, .one (.c (.ptr 0 0))), (2, .one (.c (.ptr 1 0)))], [], [(0, [.d (.int .u64 (IntKind.wrap .u64 (v__0 + v__1))), .d (.int .u64 (bits .xor .u64 r128_0 (IntKind.wrap .u64 (v__0 + v__1)))), .d (.int .u64 v__2), .d (.int .u64 v__3)]), (1, [.d (.int .u64 0), .d (.int .u64 0), .d (.int .u64 0), .d (.int .u64 0)])], 2⟩ [FnOK Go.Proofs.Try.prog 140 (f140_broughamref03_left_in v__1 13) (f140_broughamref03_left_out r128_0), 1 + 1 ≤ 4] (by kernel_rfl) ⟨(f140_broughamref03_left_ok v__1 13 r128_0 cr128_0), (by decide), trivial⟩ ?_
  obtain ⟨r131_0, cr131_0, h⟩ := bindS h
  refine At.step hm ht ⟨[(2, .call [] [] (f140_broughamref03_left_out r131_0))], [], [], [1, 2], [0, 1]⟩ 4 ⟨[(1, .one (.c (.ptr 0 0))), (2, .one (.c (.ptr 1 0)))], [], [(0, [.d (.int .u64 r131_0), .d (.int .u64 (bits .xor .u64 r128_0 (IntKind.wrap .u64 (v__0 + v__1)))), .d (.int .u64 v__2), .d (.int .u64 v__3)]), (1, [.d (.int .u64 0), .d (.int .u64 0), .d (.int .u64 0), .d (.int .u64 0)])], 2⟩ [FnOK Go.Proofs.Try.prog 140 (f140_broughamref03_left_in (IntKind.wrap .u64 (v__0 + v__1)) 32) (f140_broughamref03_left_out r131_0), 0 + 1 ≤ 4] (by kernel_rfl) ⟨(f140_broughamref03_left_ok (IntKind.wrap .u64 (v__0 + v__1)) 32 r131_0 cr131_0), (by decide), trivial⟩ ?_
  refine At.step hm ht ⟨[], [], [], [1, 2], [0, 1]⟩ 5 ⟨[(1, .one (.c (.ptr 0 0))), (2, .one (.c (.ptr 1 0)))], [], [(0, [.d (.int .u64 r131_0), .d (.int .u64 (bits .xor .u64 r128_0 (IntKind.wrap .u64 (v__0 + v__1)))), .d (.int .u64 (IntKind.wrap .u64 (v__2 + v__3))), .d (.int .u64 v__3)]), (1, [.d (.int .u64 0), .d (.int .u64 0), .d (.int .u64 0), .d (.int .u64 0)])], 2⟩ [2 + 1 ≤ 4] (by kernel_rfl) ⟨(by decide), trivial⟩ ?_
  obtain ⟨r133_0, cr133_0, h⟩ := bindS h
  refine At.step hm ht ⟨[(2, .call [] [] (f140_broughamref03_left_out r133_0))], [], [], [1, 2], [0, 1]⟩ 6 ⟨[(1, .one (.c (.ptr 0 0))), (2, .one (.c (.ptr 1 0)))], [], [(0, [.d (.int .u64 r131_0), .d (.int .u64 (bits .xor .u64 r128_0 (IntKind.wrap .u64 (v__0 + v__1)))), .d (.int .u64 (IntKind.wrap .u64 (v__2 + v__3))), .d (.int .u64 (bits .xor .u64 r133_0 (IntKind.wrap .u64 (v__2 + v__3))))]), (1, [.d (.int .u64 0), .d (.int .u64 0), .d (.int .u64 0), .d (.int .u64 0)])], 2⟩ [FnOK Go.Proofs.Try.prog 140 (f140_broughamref03_left_in v__3 16) (f140_broughamref03_left_out r133_0), 3 + 1 ≤ 4] (by kernel_rfl) ⟨(f140_broughamref03_left_ok v__3 16 r133_0 cr133_0), (by decide), trivial⟩ ?_
  refine At.step hm ht ⟨[], [], [], [1, 2], [0, 1]⟩ 7 ⟨[(1, .one (.c (.ptr 0 0))), (2, .one (.c (.ptr 1 0)))], [], [(0, [.d (.int .u64 (IntKind.wrap .u64 (r131_0 + (bits .xor .u64 r133_0 (IntKind.wrap .u64 (v__2 + v__3)))))), .d (.int .u64 (bits .xor .u64 r128_0 (IntKind.wrap .u64 (v__0 + v__1)))), .d (.int .u64 (IntKind.wrap .u64 (v__2 + v__3))), .d (.int .u64 (bits .xor .u64 r133_0 (IntKind.wrap .u64 (v__2 + v__3))))]), (1, [.d (.int .u64 0), .d (.int .u64 0), .d (.int .u64 0), .d (.int .u64 0)])], 2⟩ [0 + 1 ≤ 4] (by kernel_rfl) ⟨(by decide), trivial⟩ ?_
  obtain ⟨r135_0, cr135_0, h⟩ := bindS h
  refine At.step hm ht ⟨[(2, .call [] [] (f140_broughamref03_left_out r135_0))], [], [], [1, 2], [0, 1]⟩ 8 ⟨[(1, .one (.c (.ptr 0 0))), (2, .one (.c (.ptr 1 0)))], [], [(0, [.d (.int .u64 (IntKind.wrap .u64 (r131_0 + (bits .xor .u64 r133_0 (IntKind.wrap .u64 (v__2 + v__3)))))), .d (.int .u64 (bits .xor .u64 r128_0 (IntKind.wrap .u64 (v__0 + v__1)))), .d (.int .u64 (IntKind.wrap .u64 (v__2 + v__3))), .d (.int .u64 (bits .xor .u64 r135_0 (IntKind.wrap .u64 (r131_0 + (bits .xor .u64 r133_0 (IntKind.wrap .u64 (v__2 + v__3)))))))]), (1, [.d (.int .u64 0), .d (.int .u64 0), .d (.int .u64 0), .d (.int .u64 0)])], 2⟩ [FnOK Go.Proofs.Try.prog 140 (f140_broughamref03_left_in (bits .xor .u64 r133_0 (IntKind.wrap .u64 (v__2 + v__3))) 21) (f140_broughamref03_left_out r135_0), 3 + 1 ≤ 4] (by kernel_rfl) ⟨(f140_broughamref03_left_ok (bits .xor .u64 r133_0 (IntKind.wrap .u64 (v__2 + v__3))) 21 r135_0 cr135_0), (by decide), trivial⟩ ?_
  refine At.step hm ht ⟨[], [], [], [1, 2], [0, 1]⟩ 9 ⟨[(1, .one (.c (.ptr 0 0))), (2, .one (.c (.ptr 1 0)))], [], [(0, [.d (.int .u64 (IntKind.wrap .u64 (r131_0 + (bits .xor .u64 r133_0 (IntKind.wrap .u64 (v__2 + v__3)))))), .d (.int .u64 (bits .xor .u64 r128_0 (IntKind.wrap .u64 (v__0 + v__1)))), .d (.int .u64 (IntKind.wrap .u64 ((IntKind.wrap .u64 (v__2 + v__3)) + (bits .xor .u64 r128_0 (IntKind.wrap .u64 (v__0 + v__1)))))), .d (.int .u64 (bits .xor .u64 r135_0 (IntKind.wrap .u64 (r131_0 + (bits .xor .u64 r133_0 (IntKind.wrap .u64 (v__2 + v__3)))))))]), (1, [.d (.int .u64 0), .d (.int .u64 0), .d (.int .u64 0), .d (.int .u64 0)])], 2⟩ [2 + 1 ≤ 4] (by kernel_rfl) ⟨(by decide), trivial⟩ ?_
  obtain ⟨r137_0, cr137_0, h⟩ := bindS h
  refine At.step hm ht ⟨[(2, .call [] [] (f140_broughamref03_left_out r137_0))], [], [], [1, 2], [0, 1]⟩ 10 ⟨[(1, .one (.c (.ptr 0 0))), (2, .one (.c (.ptr 1 0)))], [], [(0, [.d (.int .u64 (IntKind.wrap .u64 (r131_0 + (bits .xor .u64 r133_0 (IntKind.wrap .u64 (v__2 + v__3)))))), .d (.int .u64 (bits .xor .u64 r137_0 (IntKind.wrap .u64 ((IntKind.wrap .u64 (v__2 + v__3)) + (bits .xor .u64 r128_0 (IntKind.wrap .u64 (v__0 + v__1))))))), .d (.int .u64 (IntKind.wrap .u64 ((IntKind.wrap .u64 (v__2 + v__3)) + (bits .xor .u64 r128_0 (IntKind.wrap .u64 (v__0 + v__1)))))), .d (.int .u64 (bits .xor .u64 r135_0 (IntKind.wrap .u64 (r131_0 + (bits .xor .u64 r133_0 (IntKind.wrap .u64 (v__2 + v__3)))))))]), (1, [.d (.int .u64 0), .d (.int .u64 0), .d (.int .u64 0), .d (.int .u64 0)])], 2⟩ [FnOK Go.Proofs.Try.prog 140 (f140_broughamref03_left_in (bits .xor .u64 r128_0 (IntKind.wrap .u64 (v__0 + v__1))) 17) (f140_broughamref03_left_out r137_0), 1 + 1 ≤ 4] (by kernel_rfl) ⟨(f140_broughamref03_left_ok (bits .xor .u64 r128_0 (IntKind.wrap .u64 (v__0 + v__1))) 17 r137_0 cr137_0), (by decide), trivial⟩ ?_
  obtain ⟨r138_0, cr138_0, h⟩ := bindS h
  refine At.step hm ht ⟨[(2, .call [] [] (f140_broughamref03_left_out r138_0))], [], [], [1, 2], [0, 1]⟩ 11 ⟨[(1, .one (.c (.ptr 0 0))), (2, .one (.c (.ptr 1 0)))], [], [(0, [.d (.int .u64 (IntKind.wrap .u64 (r131_0 + (bits .xor .u64 r133_0 (IntKind.wrap .u64 (v__2 + v__3)))))), .d (.int .u64 (bits .xor .u64 r137_0 (IntKind.wrap .u64 ((IntKind.wrap .u64 (v__2 + v__3)) + (bits .xor .u64 r128_0 (IntKind.wrap .u64 (v__0 + v__1))))))), .d (.int .u64 r138_0), .d (.int .u64 (bits .xor .u64 r135_0 (IntKind.wrap .u64 (r131_0 + (bits .xor .u64 r133_0 (IntKind.wrap .u64 (v__2 + v__3)))))))]), (1, [.d (.int .u64 0), .d (.int .u64 0), .d (.int .u64 0), .d (.int .u64 0)])], 2⟩ [FnOK Go.Proofs.Try.prog 140 (f140_broughamref03_left_in (IntKind.wrap .u64 ((IntKind.wrap .u64 (v__2 + v__3)) + (bits .xor .u64 r128_0 (IntKind.wrap .u64 (v__0 + v__1))))) 32) (f140_broughamref03_left_out r138_0), 2 + 1 ≤ 4] (by kernel_rfl) ⟨(f140_broughamref03_left_ok (IntKind.wrap .u64 ((IntKind.wrap .u64 (v__2 + v__3)) + (bits .xor .u64 r128_0 (IntKind.wrap .u64 (v__0 + v__1))))) 32 r138_0 cr138_0), (by decide), trivial⟩ ?_
  have h := Option.some.inj h
  subst h
  exact At.fin hm ht ⟨[], [], [], [2], [1]⟩ [0 + 4 ≤ 4] (by kernel_rfl) ⟨(by decide), trivial⟩
/-! brougham/broughamref03.take -/
def f119_broughamref03_take_in (v__0 : Int) (v__1 : Int) (v__2 : Int) (v__3 : Int) (m : Int) : Inn := ⟨[.agg [.d (.int .u64 v__0), .d (.int .u64 v__1), .d (.int .u64 v__2), .d (.int .u64 v__3)], .c (.d (.int .u64 m))], [], [], 0⟩
def f119_broughamref03_take_out (r : Int × Int × Int × Int) : Out := ⟨.one (.agg [.d (.int .u64 r.1), .d (.int .u64 r.2.1), .d (.int .u64 r.2.2.1), .d (.int .u64 r.2.2.2)]), [], [(0, [.d (.int .u64 r.1), .d (.int .u64 r.2.1), .d (.int .u64 r.2.2.1), .d (.int .u64 r.2.2.2)])], 1⟩
def f119_broughamref03_take (v__0 : Int) (v__1 : Int) (v__2 : Int) (v__3 : Int) (m : Int) : Option (Int × Int × Int × Int) :=
  (f120_broughamref03_round v__0 v__1 v__2 (bits .xor .u64 v__3 m)).bind fun r125_0 =>
  (f120_broughamref03_round r125_0.1 r125_0.2.1 r125_0.2.2.1 r125_0.2.2.2).bind fun r125_1 =>
  some ((bits .xor .u64 r125_1.1 m), r125_1.2.1, r125_1.2.2.1, r125_1.2.2.2)
theorem f119_broughamref03_take_ok (v__0 : Int) (v__1 : Int) (v__2 : Int) (v__3 : Int) (m : Int) (r : Int × Int × Int × Int) (h : f119_broughamref03_take v__0 v__1 v__2 v__3 m = some r) : FnOK Go.Proofs.Try.prog 119 (f119_broughamref03_take_in v__0 v__1 v__2 v__3 m) (f119_broughamref03_take_out r) := by
  unfold f119_broughamref03_take at h
  refine At.fn (r := 0) Go.Proofs.Try.func119 rfl (by kernel_rfl) rfl rfl (by kernel_rfl) ?_
  show At Go.Proofs.Try.prog Go.Proofs.Try.f119 0 0 ⟨[(0, .one (.agg [.d (.int .u64 v__0), .d (.int .u64 v__1), .d (.int .u64 v__2), .d (.int .u64 v__3)])), (1, .one (.c (.d (.int .u64 m))))], [], [], 0⟩ _
  refine At.step hm ht ⟨[], [], [], [1, 2, 4], [0, 1]⟩ 1 ⟨[(1, .one (.c (.d (.int .u64 m)))), (2, .one (.c (.ptr 0 0))), (4, .one (.c (.ptr 1 0)))], [], [(0, [.d (.int .u64 v__0), .d (.int .u64 v__1), .d (.int .u64 v__2), .d (.int .u64 v__3)]), (1, [.d (.int .u64 0), .d (.int .u64 0), .d (.int .u64 0), .d (.int .u64 0)])], 2⟩ [] (by kernel_rfl) trivial ?_
  refine At.step hm ht ⟨[], [], [], [1, 2, 4], [0, 1]⟩ 2 ⟨[(1, .one (.c (.d (.int .u64 m)))), (2, .one (.c (.ptr 0 0))), (4, .one (.c (.ptr 1 0)))], [], [(0, [.d (.int .u64 v__0), .d (.int .u64 v__1), .d (.int .u64 v__2), .d (.int .u64 (bits .xor .u64 v__3 m))]), (1, [.d (.int .u64 0), .d (.int .u64 0), .d (.int .u64 0), .d (.int .u64 0)])], 2⟩ [3 + 1 ≤ 4] (by kernel_rfl) ⟨(by decide), trivial⟩ ?_
  obtain ⟨r125_0, cr125_0, h⟩ := bindS h
  obtain ⟨r125_1, cr125_1, h⟩ := bindS h
  refine At.step hm ht ⟨[(1, .call [] [] (f120_broughamref03_round_out r125_0)), (2, .call [] [] (f120_broughamref03_round_out r125_1))], [], [], [1, 2, 4], [0, 1]⟩ 3 ⟨[(1, .one (.c (.d (.int .u64 m)))), (2, .one (.c (.ptr 0 0))), (4, .one (.c (.ptr 1 0)))], [], [(0, [.d (.int .u64 r125_1.1), .d (.int .u64 r125_1.2.1), .d (.int .u64 r125_1.2.2.1), .d (.int .u64 r125_1.2.2.2)]), (1, [.d (.int .u64 0), .d (.int .u64 0), .d (.int .u64 0), .d (.int .u64 0)])], 2⟩ [FnOK Go.Proofs.Try.prog 120 (f120_broughamref03_round_in v__0 v__1 v__2 (bits .xor .u64 v__3 m)) (f120_broughamref03_round_out r125_0), FnOK Go.Proofs.Try.prog 120 (f120_broughamref03_round_in r125_0.1 r125_0.2.1 r125_0.2.2.1 r125_0.2.2.2) (f120_broughamref03_round_out r125_1), 0 + 4 ≤ 4] (by kernel_rfl) ⟨(f120_broughamref03_round_ok v__0 v__1 v__2 (bits .xor .u64 v__3 m) r125_0 cr125_0), (f120_broughamref03_round_ok r125_0.1 r125_0.2.1 r125_0.2.2.1 r125_0.2.2.2 r125_1 cr125_1), (by decide), trivial⟩ ?_
  refine At.step hm ht ⟨[], [], [], [2, 4], [0, 1]⟩ 4 ⟨[(2, .one (.c (.ptr 0 0))), (4, .one (.c (.ptr 1 0)))], [], [(0, [.d (.int .u64 (bits .xor .u64 r125_1.1 m)), .d (.int .u64 r125_1.2.1), .d (.int .u64 r125_1.2.2.1), .d (.int .u64 r125_1.2.2.2)]), (1, [.d (.int .u64 0), .d (.int .u64 0), .d (.int .u64 0), .d (.int .u64 0)])], 2⟩ [0 + 1 ≤ 4] (by kernel_rfl) ⟨(by decide), trivial⟩ ?_
  have h := Option.some.inj h
  subst h
  exact At.fin hm ht ⟨[], [], [], [4], [1]⟩ [0 + 4 ≤ 4] (by kernel_rfl) ⟨(by decide), trivial⟩
/-! brougham/broughamref03.Sum -/
def f82_broughamref03_Sum_in (k_0 : Int) (k_1 : Int) (b : List Int) : Inn := ⟨[.agg [.d (.int .u64 k_0), .d (.int .u64 k_1)], .c (.d (.sl (.int .u8) b))], [], [], 0⟩
def f82_broughamref03_Sum_out (r : Int) : Out := ⟨.one (.c (.d (.int .u64 r))), [], [], 0⟩
def f82_broughamref03_Sum_L6 : Nat → (List Int) → Int → Int → Int → Int → Int → Int → Int → Option (List Int × Int × Int × Int × Int × Int × Int)
  | 0, _, _, _, _, _, _, _, _ => none
  | n + 1, b, at_, m, i, v__0, v__1, v__2, v__3 =>
    if (decide ((i : Int) ≥ 0)) = true then
      if (0 : Int) ≤ (IntKind.wrap .i64 (at_ + i)) ∧ (IntKind.wrap .i64 (at_ + i)) < (((b).length : Nat) : Int) then
      f82_broughamref03_Sum_L6 n b at_ (IntKind.wrap .u64 ((IntKind.wrap .u64 (m * 256)) + (IntKind.wrap .u64 (b.getD (IntKind.wrap .i64 (at_ + i)).toNat 0)))) (IntKind.wrap .i64 (i - 1)) v__0 v__1 v__2 v__3
      else none
    else
      some ((b, at_, m, v__0, v__1, v__2, v__3))
def f82_broughamref03_Sum_L6_k (e : List Int × Int × Int × Int × Int × Int × Int) (o : Out) : Prop := At Go.Proofs.Try.prog Go.Proofs.Try.f82 0 9 ⟨[(1, .one (.c (.d (.sl (.int .u8) e.1)))), (5, .one (.c (.ptr 0 0))), (6, .one (.c (.d (.int .i64 e.2.1)))), (7, .one (.c (.d (.int .u64 e.2.2.1))))], [], [(0, [.d (.int .u64 e.2.2.2.1), .d (.int .u64 e.2.2.2.2.1), .d (.int .u64 e.2.2.2.2.2.1), .d (.int .u64 e.2.2.2.2.2.2)])], 1⟩ o
theorem f82_broughamref03_Sum_L6_ok (n : Nat) : ∀ (b : List Int) (at_ : Int) (m : Int) (i : Int) (v__0 : Int) (v__1 : Int) (v__2 : Int) (v__3 : Int) (w : List Int × Int × Int × Int × Int × Int × Int) (h : f82_broughamref03_Sum_L6 n b at_ m i v__0 v__1 v__2 v__3 = some w) (o : Out) (hk : f82_broughamref03_Sum_L6_k w o), At Go.Proofs.Try.prog Go.Proofs.Try.f82 0 6 ⟨[(1, .one (.c (.d (.sl (.int .u8) b)))), (5, .one (.c (.ptr 0 0))), (6, .one (.c (.d (.int .i64 at_)))), (7, .one (.c (.d (.int .u64 m)))), (8, .one (.c (.d (.int .i64 i))))], [], [(0, [.d (.int .u64 v__0), .d (.int .u64 v__1), .d (.int .u64 v__2), .d (.int .u64 v__3)])], 1⟩ o := by
  induction n with
  | zero => intro b at_ m i v__0 v__1 v__2 v__3 w h; rw [f82_broughamref03_Sum_L6] at h; cases h
  | succ n ih =>
    intro b at_ m i v__0 v__1 v__2 v__3 w h o hk
    rw [f82_broughamref03_Sum_L6] at h
    rcases iteS h with ⟨b117_e0, h⟩ | ⟨b117_e0, h⟩
    · refine At.step hm ht ⟨[], [true], [], [1, 5, 6, 7, 8], [0]⟩ 8 ⟨[(1, .one (.c (.d (.sl (.int .u8) b)))), (5, .one (.c (.ptr 0 0))), (6, .one (.c (.d (.int .i64 at_)))), (7, .one (.c (.d (.int .u64 m)))), (8, .one (.c (.d (.int .i64 i))))], [], [(0, [.d (.int .u64 v__0), .d (.int .u64 v__1), .d (.int .u64 v__2), .d (.int .u64 v__3)])], 1⟩ [(decide ((i : Int) ≥ 0)) = true] (by kernel_rfl) ⟨b117_e0, trivial⟩ ?_
      obtain ⟨g118_0, h⟩ := ifS h
      refine At.step hm ht ⟨[], [], [], [1, 5, 6, 7, 8], [0]⟩ 7 ⟨[(1, .one (.c (.d (.sl (.int .u8) b)))), (5, .one (.c (.ptr 0 0))), (6, .one (.c (.d (.int .i64 at_)))), (7, .one (.c (.d (.int .u64 (IntKind.wrap .u64 ((IntKind.wrap .u64 (m * 256)) + (IntKind.wrap .u64 (b.getD (IntKind.wrap .i64 (at_ + i)).toNat 0)))))))), (8, .one (.c (.d (.int .i64 i))))], [], [(0, [.d (.int .u64 v__0), .d (.int .u64 v__1), .d (.int .u64 v__2), .d (.int .u64 v__3)])], 1⟩ [(0 : Int) ≤ (IntKind.wrap .i64 (at_ + i)) ∧ (IntKind.wrap .i64 (at_ + i)) < (((b).length : Nat) : Int)] (by kernel_rfl) ⟨g118_0, trivial⟩ ?_
      refine At.step hm ht ⟨[], [], [], [1, 5, 6, 7, 8], [0]⟩ 6 ⟨[(1, .one (.c (.d (.sl (.int .u8) b)))), (5, .one (.c (.ptr 0 0))), (6, .one (.c (.d (.int .i64 at_)))), (7, .one (.c (.d (.int .u64 (IntKind.wrap .u64 ((IntKind.wrap .u64 (m * 256)) + (IntKind.wrap .u64 (b.getD (IntKind.wrap .i64 (at_ + i)).toNat 0)))))))), (8, .one (.c (.d (.int .i64 (IntKind.wrap .i64 (i - 1))))))], [], [(0, [.d (.int .u64 v__0), .d (.int .u64 v__1), .d (.int .u64 v__2), .d (.int .u64 v__3)])], 1⟩ [] (by kernel_rfl) trivial ?_
      exact ih b at_ (IntKind.wrap .u64 ((IntKind.wrap .u64 (m * 256)) + (IntKind.wrap .u64 (b.getD (IntKind.wrap .i64 (at_ + i)).toNat 0)))) (IntKind.wrap .i64 (i - 1)) v__0 v__1 v__2 v__3 w h o hk
    · refine At.step hm ht ⟨[], [false], [], [1, 5, 6, 7], [0]⟩ 9 ⟨[(1, .one (.c (.d (.sl (.int .u8) b)))), (5, .one (.c (.ptr 0 0))), (6, .one (.c (.d (.int .i64 at_)))), (7, .one (.c (.d (.int .u64 m))))], [], [(0, [.d (.int .u64 v__0), .d (.int .u64 v__1), .d (.int .u64 v__2), .d (.int .u64 v__3)])], 1⟩ [(decide ((i : Int) ≥ 0)) = false] (by kernel_rfl) ⟨b117_e0, trivial⟩ ?_
      have h := Option.some.inj h
      subst h
      exact hk
def f82_broughamref03_Sum_L3 : Nat → (List Int) → Int → Int → Int → Int → Int → Option (List Int × Int × Int × Int × Int × Int)
  | 0, _, _, _, _, _, _ => none
  | n + 1, b, at_, v__0, v__1, v__2, v__3 =>
    if (decide (((IntKind.wrap .i64 (((b.length : Nat) : Int) - at_)) : Int) ≥ 8)) = true then
      (f82_broughamref03_Sum_L6 n b at_ 0 7 v__0 v__1 v__2 v__3).bind fun w120 =>
      (f119_broughamref03_take w120.2.2.2.1 w120.2.2.2.2.1 w120.2.2.2.2.2.1 w120.2.2.2.2.2.2 w120.2.2.1).bind fun r122_0 =>
      f82_broughamref03_Sum_L3 n w120.1 (IntKind.wrap .i64 (w120.2.1 + 8)) r122_0.1 r122_0.2.1 r122_0.2.2.1 r122_0.2.2.2
    else
      some ((b, at_, v__0, v__1, v__2, v__3))
def f82_broughamref03_Sum_L3_k (e : List Int × Int × Int × Int × Int × Int) (o : Out) : Prop := At Go.Proofs.Try.prog Go.Proofs.Try.f82 0 11 ⟨[(1, .one (.c (.d (.sl (.int .u8) e.1)))), (5, .one (.c (.ptr 0 0))), (6, .one (.c (.d (.int .i64 e.2.1))))], [], [(0, [.d (.int .u64 e.2.2.1), .d (.int .u64 e.2.2.2.1), .d (.int .u64 e.2.2.2.2.1), .d (.int .u64 e.2.2.2.2.2)])], 1⟩ o
theorem f82_broughamref03_Sum_L3_ok (n : Nat) : ∀ (b : List Int) (at_ : Int) (v__0 : Int) (v__1 : Int) (v__2 : Int) (v__3 : Int) (w : List Int × Int × Int × Int × Int × Int) (h : f82_broughamref03_Sum_L3 n b at_ v__0 v__1 v__2 v__3 = some w) (o : Out) (hk : f82_broughamref03_Sum_L3_k w o), At Go.Proofs.Try.prog Go.Proofs.Try.f82 0 3 ⟨[(1, .one (.c (.d (.sl (.int .u8) b)))), (5, .one (.c (.ptr 0 0))), (6, .one (.c (.d (.int .i64 at_))))], [], [(0, [.d (.int .u64 v__0), .d (.int .u64 v__1), .d (.int .u64 v__2), .d (.int .u64 v__3)])], 1⟩ o := by
  induction n with
  | zero => intro b at_ v__0 v__1 v__2 v__3 w h; rw [f82_broughamref03_Sum_L3] at h; cases h
  | succ n ih =>
    intro b at_ v__0 v__1 v__2 v__3 w h o hk
    rw [f82_broughamref03_Sum_L3] at h
    rcases iteS h with ⟨b114_e0, h⟩ | ⟨b114_e0, h⟩
    · refine At.step hm ht ⟨[], [true], [], [1, 5, 6], [0]⟩ 4 ⟨[(1, .one (.c (.d (.sl (.int .u8) b)))), (5, .one (.c (.ptr 0 0))), (6, .one (.c (.d (.int .i64 at_))))], [], [(0, [.d (.int .u64 v__0), .d (.int .u64 v__1), .d (.int .u64 v__2), .d (.int .u64 v__3)])], 1⟩ [(decide (((IntKind.wrap .i64 (((b.length : Nat) : Int) - at_)) : Int) ≥ 8)) = true] (by kernel_rfl) ⟨b114_e0, trivial⟩ ?_
      refine At.step hm ht ⟨[], [], [], [1, 5, 6, 7], [0]⟩ 5 ⟨[(1, .one (.c (.d (.sl (.int .u8) b)))), (5, .one (.c (.ptr 0 0))), (6, .one (.c (.d (.int .i64 at_)))), (7, .one (.c (.d (.int .u64 0))))], [], [(0, [.d (.int .u64 v__0), .d (.int .u64 v__1), .d (.int .u64 v__2), .d (.int .u64 v__3)])], 1⟩ [] (by kernel_rfl) trivial ?_
      refine At.step hm ht ⟨[], [], [], [1, 5, 6, 7, 8], [0]⟩ 6 ⟨[(1, .one (.c (.d (.sl (.int .u8) b)))), (5, .one (.c (.ptr 0 0))), (6, .one (.c (.d (.int .i64 at_)))), (7, .one (.c (.d (.int .u64 0)))), (8, .one (.c (.d (.int .i64 7))))], [], [(0, [.d (.int .u64 v__0), .d (.int .u64 v__1), .d (.int .u64 v__2), .d (.int .u64 v__3)])], 1⟩ [] (by kernel_rfl) trivial ?_
      obtain ⟨w120, cw120, h⟩ := bindS h
      refine f82_broughamref03_Sum_L6_ok n b at_ 0 7 v__0 v__1 v__2 v__3 w120 cw120 _ ?_
      show At Go.Proofs.Try.prog Go.Proofs.Try.f82 0 9 ⟨[(1, .one (.c (.d (.sl (.int .u8) w120.1)))), (5, .one (.c (.ptr 0 0))), (6, .one (.c (.d (.int .i64 w120.2.1)))), (7, .one (.c (.d (.int .u64 w120.2.2.1))))], [], [(0, [.d (.int .u64 w120.2.2.2.1), .d (.int .u64 w120.2.2.2.2.1), .d (.int .u64 w120.2.2.2.2.2.1), .d (.int .u64 w120.2.2.2.2.2.2)])], 1⟩ _
      obtain ⟨r122_0, cr122_0, h⟩ := bindS h
      refine At.step hm ht ⟨[(2, .call [] [] (f119_broughamref03_take_out r122_0))], [], [], [1, 5, 6], [0]⟩ 10 ⟨[(1, .one (.c (.d (.sl (.int .u8) w120.1)))), (5, .one (.c (.ptr 0 0))), (6, .one (.c (.d (.int .i64 w120.2.1))))], [], [(0, [.d (.int .u64 r122_0.1), .d (.int .u64 r122_0.2.1), .d (.int .u64 r122_0.2.2.1), .d (.int .u64 r122_0.2.2.2)])], 1⟩ [FnOK Go.Proofs.Try.prog 119 (f119_broughamref03_take_in w120.2.2.2.1 w120.2.2.2.2.1 w120.2.2.2.2.2.1 w120.2.2.2.2.2.2 w120.2.2.1) (f119_broughamref03_take_out r122_0), 0 + 4 ≤ 4] (by kernel_rfl) ⟨(f119_broughamref03_take_ok w120.2.2.2.1 w120.2.2.2.2.1 w120.2.2.2.2.2.1 w120.2.2.2.2.2.2 w120.2.2.1 r122_0 cr122_0), (by decide), trivial⟩ ?_
      refine At.step hm ht ⟨[], [], [], [1, 5, 6], [0]⟩ 3 ⟨[(1, .one (.c (.d (.sl (.int .u8) w120.1)))), (5, .one (.c (.ptr 0 0))), (6, .one (.c (.d (.int .i64 (IntKind.wrap .i64 (w120.2.1 + 8))))))], [], [(0, [.d (.int .u64 r122_0.1), .d (.int .u64 r122_0.2.1), .d (.int .u64 r122_0.2.2.1), .d (.int .u64 r122_0.2.2.2)])], 1⟩ [] (by kernel_rfl) trivial ?_
      exact ih w120.1 (IntKind.wrap .i64 (w120.2.1 + 8)) r122_0.1 r122_0.2.1 r122_0.2.2.1 r122_0.2.2.2 w h o hk
    · refine At.step hm ht ⟨[], [false], [], [1, 5, 6], [0]⟩ 11 ⟨[(1, .one (.c (.d (.sl (.int .u8) b)))), (5, .one (.c (.ptr 0 0))), (6, .one (.c (.d (.int .i64 at_))))], [], [(0, [.d (.int .u64 v__0), .d (.int .u64 v__1), .d (.int .u64 v__2), .d (.int .u64 v__3)])], 1⟩ [(decide (((IntKind.wrap .i64 (((b.length : Nat) : Int) - at_)) : Int) ≥ 8)) = false] (by kernel_rfl) ⟨b114_e0, trivial⟩ ?_
      have h := Option.some.inj h
      subst h
      exact hk
def f82_broughamref03_Sum_L13 : Nat → (List Int) → Int → Int → Int → Int → Int → Int → Int → Option (Int × Int × Int × Int × Int)
  | 0, _, _, _, _, _, _, _, _ => none
  | n + 1, b, at_, m, i, v__0, v__1, v__2, v__3 =>
    if (decide ((i : Int) ≥ 0)) = true then
      if (decide (((IntKind.wrap .i64 (at_ + i)) : Int) < ((b.length : Nat) : Int))) = true then
        if (0 : Int) ≤ (IntKind.wrap .i64 (at_ + i)) ∧ (IntKind.wrap .i64 (at_ + i)) < (((b).length : Nat) : Int) then
        f82_broughamref03_Sum_L13 n b at_ (IntKind.wrap .u64 ((IntKind.wrap .u64 (m * 256)) + (IntKind.wrap .u64 (b.getD (IntKind.wrap .i64 (at_ + i)).toNat 0)))) (IntKind.wrap .i64 (i - 1)) v__0 v__1 v__2 v__3
        else none
      else
        f82_broughamref03_Sum_L13 n b at_ (IntKind.wrap .u64 ((IntKind.wrap .u64 (m * 256)) + 0)) (IntKind.wrap .i64 (i - 1)) v__0 v__1 v__2 v__3
    else
      some ((m, v__0, v__1, v__2, v__3))
def f82_broughamref03_Sum_L13_k (e : Int × Int × Int × Int × Int) (o : Out) : Prop := At Go.Proofs.Try.prog Go.Proofs.Try.f82 0 19 ⟨[(5, .one (.c (.ptr 0 0))), (9, .one (.c (.d (.int .u64 e.1))))], [], [(0, [.d (.int .u64 e.2.1), .d (.int .u64 e.2.2.1), .d (.int .u64 e.2.2.2.1), .d (.int .u64 e.2.2.2.2)])], 1⟩ o
theorem f82_broughamref03_Sum_L13_ok (n : Nat) : ∀ (b : List Int) (at_ : Int) (m : Int) (i : Int) (v__0 : Int) (v__1 : Int) (v__2 : Int) (v__3 : Int) (w : Int × Int × Int × Int × Int) (h : f82_broughamref03_Sum_L13 n b at_ m i v__0 v__1 v__2 v__3 = some w) (o : Out) (hk : f82_broughamref03_Sum_L13_k w o), At Go.Proofs.Try.prog Go.Proofs.Try.f82 0 13 ⟨[(1, .one (.c (.d (.sl (.int .u8) b)))), (5, .one (.c (.ptr 0 0))), (6, .one (.c (.d (.int .i64 at_)))), (9, .one (.c (.d (.int .u64 m)))), (10, .one (.c (.d (.int .i64 i))))], [], [(0, [.d (.int .u64 v__0), .d (.int .u64 v__1), .d (.int .u64 v__2), .d (.int .u64 v__3)])], 1⟩ o := by
  induction n with
  | zero => intro b at_ m i v__0 v__1 v__2 v__3 w h; rw [f82_broughamref03_Sum_L13] at h; cases h
  | succ n ih =>
    intro b at_ m i v__0 v__1 v__2 v__3 w h o hk
    rw [f82_broughamref03_Sum_L13] at h
    rcases iteS h with ⟨b147_e0, h⟩ | ⟨b147_e0, h⟩
    · refine At.step hm ht ⟨[], [true], [], [1, 5, 6, 9, 10], [0]⟩ 15 ⟨[(1, .one (.c (.d (.sl (.int .u8) b)))), (5, .one (.c (.ptr 0 0))), (6, .one (.c (.d (.int .i64 at_)))), (9, .one (.c (.d (.int .u64 m)))), (10, .one (.c (.d (.int .i64 i))))], [], [(0, [.d (.int .u64 v__0), .d (.int .u64 v__1), .d (.int .u64 v__2), .d (.int .u64 v__3)])], 1⟩ [(decide ((i : Int) ≥ 0)) = true] (by kernel_rfl) ⟨b147_e0, trivial⟩ ?_
      refine At.step hm ht ⟨[], [], [], [1, 5, 6, 9, 10, 11], [0]⟩ 16 ⟨[(1, .one (.c (.d (.sl (.int .u8) b)))), (5, .one (.c (.ptr 0 0))), (6, .one (.c (.d (.int .i64 at_)))), (9, .one (.c (.d (.int .u64 m)))), (10, .one (.c (.d (.int .i64 i)))), (11, .one (.c (.d (.int .u64 0))))], [], [(0, [.d (.int .u64 v__0), .d (.int .u64 v__1), .d (.int .u64 v__2), .d (.int .u64 v__3)])], 1⟩ [] (by kernel_rfl) trivial ?_
      rcases iteS h with ⟨b149_e0, h⟩ | ⟨b149_e0, h⟩
      · refine At.step hm ht ⟨[], [true], [], [1, 5, 6, 9, 10], [0]⟩ 17 ⟨[(1, .one (.c (.d (.sl (.int .u8) b)))), (5, .one (.c (.ptr 0 0))), (6, .one (.c (.d (.int .i64 at_)))), (9, .one (.c (.d (.int .u64 m)))), (10, .one (.c (.d (.int .i64 i))))], [], [(0, [.d (.int .u64 v__0), .d (.int .u64 v__1), .d (.int .u64 v__2), .d (.int .u64 v__3)])], 1⟩ [(decide (((IntKind.wrap .i64 (at_ + i)) : Int) < ((b.length : Nat) : Int))) = true] (by kernel_rfl) ⟨b149_e0, trivial⟩ ?_
        obtain ⟨g150_0, h⟩ := ifS h
        refine At.step hm ht ⟨[], [], [], [1, 5, 6, 9, 10, 11], [0]⟩ 18 ⟨[(1, .one (.c (.d (.sl (.int .u8) b)))), (5, .one (.c (.ptr 0 0))), (6, .one (.c (.d (.int .i64 at_)))), (9, .one (.c (.d (.int .u64 m)))), (10, .one (.c (.d (.int .i64 i)))), (11, .one (.c (.d (.int .u64 (IntKind.wrap .u64 (b.getD (IntKind.wrap .i64 (at_ + i)).toNat 0))))))], [], [(0, [.d (.int .u64 v__0), .d (.int .u64 v__1), .d (.int .u64 v__2), .d (.int .u64 v__3)])], 1⟩ [(0 : Int) ≤ (IntKind.wrap .i64 (at_ + i)) ∧ (IntKind.wrap .i64 (at_ + i)) < (((b).length : Nat) : Int)] (by kernel_rfl) ⟨g150_0, trivial⟩ ?_
        refine At.step hm ht ⟨[], [], [], [1, 5, 6, 9, 10], [0]⟩ 14 ⟨[(1, .one (.c (.d (.sl (.int .u8) b)))), (5, .one (.c (.ptr 0 0))), (6, .one (.c (.d (.int .i64 at_)))), (9, .one (.c (.d (.int .u64 (IntKind.wrap .u64 ((IntKind.wrap .u64 (m * 256)) + (IntKind.wrap .u64 (b.getD (IntKind.wrap .i64 (at_ + i)).toNat 0)))))))), (10, .one (.c (.d (.int .i64 i))))], [], [(0, [.d (.int .u64 v__0), .d (.int .u64 v__1), .d (.int .u64 v__2), .d (.int .u64 v__3)])], 1⟩ [] (by kernel_rfl) trivial ?_
        refine At.step hm ht ⟨[], [], [], [1, 5, 6, 9, 10], [0]⟩ 13 ⟨[(1, .one (.c (.d (.sl (.int .u8) b)))), (5, .one (.c (.ptr 0 0))), (6, .one (.c (.d (.int .i64 at_)))), (9, .one (.c (.d (.int .u64 (IntKind.wrap .u64 ((IntKind.wrap .u64 (m * 256)) + (IntKind.wrap .u64 (b.getD (IntKind.wrap .i64 (at_ + i)).toNat 0)))))))), (10, .one (.c (.d (.int .i64 (IntKind.wrap .i64 (i - 1))))))], [], [(0, [.d (.int .u64 v__0), .d (.int .u64 v__1), .d (.int .u64 v__2), .d (.int .u64 v__3)])], 1⟩ [] (by kernel_rfl) trivial ?_
        exact ih b at_ (IntKind.wrap .u64 ((IntKind.wrap .u64 (m * 256)) + (IntKind.wrap .u64 (b.getD (IntKind.wrap .i64 (at_ + i)).toNat 0)))) (IntKind.wrap .i64 (i - 1)) v__0 v__1 v__2 v__3 w h o hk
      · refine At.step hm ht ⟨[], [false], [], [1, 5, 6, 9, 10, 11], [0]⟩ 18 ⟨[(1, .one (.c (.d (.sl (.int .u8) b)))), (5, .one (.c (.ptr 0 0))), (6, .one (.c (.d (.int .i64 at_)))), (9, .one (.c (.d (.int .u64 m)))), (10, .one (.c (.d (.int .i64 i)))), (11, .one (.c (.d (.int .u64 0))))], [], [(0, [.d (.int .u64 v__0), .d (.int .u64 v__1), .d (.int .u64 v__2), .d (.int .u64 v__3)])], 1⟩ [(decide (((IntKind.wrap .i64 (at_ + i)) : Int) < ((b.length : Nat) : Int))) = false] (by kernel_rfl) ⟨b149_e0, trivial⟩ ?_
        refine At.step hm ht ⟨[], [], [], [1, 5, 6, 9, 10], [0]⟩ 14 ⟨[(1, .one (.c (.d (.sl (.int .u8) b)))), (5, .one (.c (.ptr 0 0))), (6, .one (.c (.d (.int .i64 at_)))), (9, .one (.c (.d (.int .u64 (IntKind.wrap .u64 ((IntKind.wrap .u64 (m * 256)) + 0)))))), (10, .one (.c (.d (.int .i64 i))))], [], [(0, [.d (.int .u64 v__0), .d (.int .u64 v__1), .d (.int .u64 v__2), .d (.int .u64 v__3)])], 1⟩ [] (by kernel_rfl) trivial ?_
        refine At.step hm ht ⟨[], [], [], [1, 5, 6, 9, 10], [0]⟩ 13 ⟨[(1, .one (.c (.d (.sl (.int .u8) b)))), (5, .one (.c (.ptr 0 0))), (6, .one (.c (.d (.int .i64 at_)))), (9, .one (.c (.d (.int .u64 (IntKind.wrap .u64 ((IntKind.wrap .u64 (m * 256)) + 0)))))), (10, .one (.c (.d (.int .i64 (IntKind.wrap .i64 (i - 1))))))], [], [(0, [.d (.int .u64 v__0), .d (.int .u64 v__1), .d (.int .u64 v__2), .d (.int .u64 v__3)])], 1⟩ [] (by kernel_rfl) trivial ?_
        exact ih b at_ (IntKind.wrap .u64 ((IntKind.wrap .u64 (m * 256)) + 0)) (IntKind.wrap .i64 (i - 1)) v__0 v__1 v__2 v__3 w h o hk
    · refine At.step hm ht ⟨[], [false], [], [5, 9], [0]⟩ 19 ⟨[(5, .one (.c (.ptr 0 0))), (9, .one (.c (.d (.int .u64 m))))], [], [(0, [.d (.int .u64 v__0), .d (.int .u64 v__1), .d (.int .u64 v__2), .d (.int .u64 v__3)])], 1⟩ [(decide ((i : Int) ≥ 0)) = false] (by kernel_rfl) ⟨b147_e0, trivial⟩ ?_
      have h := Option.some.inj h
      subst h
      exact hk
def f82_broughamref03_Sum (n : Nat) (k_0 : Int) (k_1 : Int) (b : List Int) : Option (Int) :=
  (f82_broughamref03_Sum_L3 n b 0 (bits .xor .u64 k_0 8317987319222330741) (bits .xor .u64 k_1 7237128888997146477) (bits .xor .u64 k_0 7816392313619706465) (bits .xor .u64 k_1 8387220255154660723)).bind fun w143 =>
  (f82_broughamref03_Sum_L13 n w143.1 w143.2.1 (IntKind.wrap .u64 (Int.tmod ((w143.1.length : Nat) : Int) 256)) 6 w143.2.2.1 w143.2.2.2.1 w143.2.2.2.2.1 w143.2.2.2.2.2).bind fun w155 =>
  (f119_broughamref03_take w155.2.1 w155.2.2.1 w155.2.2.2.1 w155.2.2.2.2 w155.1).bind fun r157_0 =>
  (f120_broughamref03_round r157_0.1 r157_0.2.1 (bits .xor .u64 r157_0.2.2.1 255) r157_0.2.2.2).bind fun r159_0 =>
  (f120_broughamref03_round r159_0.1 r159_0.2.1 r159_0.2.2.1 r159_0.2.2.2).bind fun r159_1 =>
  (f120_broughamref03_round r159_1.1 r159_1.2.1 r159_1.2.2.1 r159_1.2.2.2).bind fun r159_2 =>
  (f120_broughamref03_round r159_2.1 r159_2.2.1 r159_2.2.2.1 r159_2.2.2.2).bind fun r159_3 =>
  some (bits .xor .u64 (bits .xor .u64 (bits .xor .u64 r159_3.1 r159_3.2.1) r159_3.2.2.1) r159_3.2.2.2)
theorem f82_broughamref03_Sum_ok (n : Nat) (k_0 : Int) (k_1 : Int) (b : List Int) (r : Int) (h : f82_broughamref03_Sum n k_0 k_1 b = some r) : FnOK Go.Proofs.Try.prog 82 (f82_broughamref03_Sum_in k_0 k_1 b) (f82_broughamref03_Sum_out r) := by
  unfold f82_broughamref03_Sum at h
  refine At.fn (r := 0) Go.Proofs.Try.func82 rfl (by kernel_rfl) rfl rfl (by kernel_rfl) ?_
  show At Go.Proofs.Try.prog Go.Proofs.Try.f82 0 0 ⟨[(0, .one (.agg [.d (.int .u64 k_0), .d (.int .u64 k_1)])), (1, .one (.c (.d (.sl (.int .u8) b))))], [], [], 0⟩ _
  refine At.step hm ht ⟨[], [], [], [1, 2], [0]⟩ 1 ⟨[(1, .one (.c (.d (.sl (.int .u8) b)))), (2, .one (.c (.ptr 0 0)))], [], [(0, [.d (.int .u64 k_0), .d (.int .u64 k_1)])], 1⟩ [] (by kernel_rfl) trivial ?_
  refine At.step hm ht ⟨[], [], [], [1, 5], [14]⟩ 2 ⟨[(1, .one (.c (.d (.sl (.int .u8) b)))), (5, .one (.c (.ptr 0 0)))], [], [(0, [.d (.int .u64 (bits .xor .u64 k_0 8317987319222330741)), .d (.int .u64 (bits .xor .u64 k_1 7237128888997146477)), .d (.int .u64 (bits .xor .u64 k_0 7816392313619706465)), .d (.int .u64 (bits .xor .u64 k_1 8387220255154660723))])], 1⟩ [0 + 4 ≤ 4] (by kernel_rfl) ⟨(by decide), trivial⟩ ?_
  refine At.step hm ht ⟨[], [], [], [1, 5, 6], [0]⟩ 3 ⟨[(1, .one (.c (.d (.sl (.int .u8) b)))), (5, .one (.c (.ptr 0 0))), (6, .one (.c (.d (.int .i64 0))))], [], [(0, [.d (.int .u64 (bits .xor .u64 k_0 8317987319222330741)), .d (.int .u64 (bits .xor .u64 k_1 7237128888997146477)), .d (.int .u64 (bits .xor .u64 k_0 7816392313619706465)), .d (.int .u64 (bits .xor .u64 k_1 8387220255154660723))])], 1⟩ [] (by kernel_rfl) trivial ?_
  obtain ⟨w143, cw143, h⟩ := bindS h
  refine f82_broughamref03_Sum_L3_ok n b 0 (bits .xor .u64 k_0 8317987319222330741) (bits .xor .u64 k_1 7237128888997146477) (bits .xor .u64 k_0 7816392313619706465) (bits .xor .u64 k_1 8387220255154660723) w143 cw143 _ ?_
  show At Go.Proofs.Try.prog Go.Proofs.Try.f82 0 11 ⟨[(1, .one (.c (.d (.sl (.int .u8) w143.1)))), (5, .one (.c (.ptr 0 0))), (6, .one (.c (.d (.int .i64 w143.2.1))))], [], [(0, [.d (.int .u64 w143.2.2.1), .d (.int .u64 w143.2.2.2.1), .d (.int .u64 w143.2.2.2.2.1), .d (.int .u64 w143.2.2.2.2.2)])], 1⟩ _
  refine At.step hm ht ⟨[], [], [], [1, 5, 6, 9], [0]⟩ 12 ⟨[(1, .one (.c (.d (.sl (.int .u8) w143.1)))), (5, .one (.c (.ptr 0 0))), (6, .one (.c (.d (.int .i64 w143.2.1)))), (9, .one (.c (.d (.int .u64 (IntKind.wrap .u64 (Int.tmod ((w143.1.length : Nat) : Int) 256))))))], [], [(0, [.d (.int .u64 w143.2.2.1), .d (.int .u64 w143.2.2.2.1), .d (.int .u64 w143.2.2.2.2.1), .d (.int .u64 w143.2.2.2.2.2)])], 1⟩ [(256 : Int) ≠ 0] (by kernel_rfl) ⟨(by decide), trivial⟩ ?_
  refine At.step hm ht ⟨[], [], [], [1, 5, 6, 9, 10], [0]⟩ 13 ⟨[(1, .one (.c (.d (.sl (.int .u8) w143.1)))), (5, .one (.c (.ptr 0 0))), (6, .one (.c (.d (.int .i64 w143.2.1)))), (9, .one (.c (.d (.int .u64 (IntKind.wrap .u64 (Int.tmod ((w143.1.length : Nat) : Int) 256)))))), (10, .one (.c (.d (.int .i64 6))))], [], [(0, [.d (.int .u64 w143.2.2.1), .d (.int .u64 w143.2.2.2.1), .d (.int .u64 w143.2.2.2.2.1), .d (.int .u64 w143.2.2.2.2.2)])], 1⟩ [] (by kernel_rfl) trivial ?_
  obtain ⟨w155, cw155, h⟩ := bindS h
  refine f82_broughamref03_Sum_L13_ok n w143.1 w143.2.1 (IntKind.wrap .u64 (Int.tmod ((w143.1.length : Nat) : Int) 256)) 6 w143.2.2.1 w143.2.2.2.1 w143.2.2.2.2.1 w143.2.2.2.2.2 w155 cw155 _ ?_
  show At Go.Proofs.Try.prog Go.Proofs.Try.f82 0 19 ⟨[(5, .one (.c (.ptr 0 0))), (9, .one (.c (.d (.int .u64 w155.1))))], [], [(0, [.d (.int .u64 w155.2.1), .d (.int .u64 w155.2.2.1), .d (.int .u64 w155.2.2.2.1), .d (.int .u64 w155.2.2.2.2)])], 1⟩ _
  obtain ⟨r157_0, cr157_0, h⟩ := bindS h
  refine At.step hm ht ⟨[(2, .call [] [] (f119_broughamref03_take_out r157_0))], [], [], [5], [0]⟩ 20 ⟨[(5, .one (.c (.ptr 0 0)))], [], [(0, [.d (.int .u64 r157_0.1), .d (.int .u64 r157_0.2.1), .d (.int .u64 r157_0.2.2.1), .d (.int .u64 r157_0.2.2.2)])], 1⟩ [FnOK Go.Proofs.Try.prog 119 (f119_broughamref03_take_in w155.2.1 w155.2.2.1 w155.2.2.2.1 w155.2.2.2.2 w155.1) (f119_broughamref03_take_out r157_0), 0 + 4 ≤ 4] (by kernel_rfl) ⟨(f119_broughamref03_take_ok w155.2.1 w155.2.2.1 w155.2.2.2.1 w155.2.2.2.2 w155.1 r157_0 cr157_0), (by decide), trivial⟩ ?_
  refine At.step hm ht ⟨[], [], [], [5], [0]⟩ 21 ⟨[(5, .one (.c (.ptr 0 0)))], [], [(0, [.d (.int .u64 r157_0.1), .d (.int .u64 r157_0.2.1), .d (.int .u64 (bits .xor .u64 r157_0.2.2.1 255)), .d (.int .u64 r157_0.2.2.2)])], 1⟩ [2 + 1 ≤ 4] (by kernel_rfl) ⟨(by decide), trivial⟩ ?_
  obtain ⟨r159_0, cr159_0, h⟩ := bindS h
  obtain ⟨r159_1, cr159_1, h⟩ := bindS h
  obtain ⟨r159_2, cr159_2, h⟩ := bindS h
  obtain ⟨r159_3, cr159_3, h⟩ := bindS h
  refine At.step hm ht ⟨[(1, .call [] [] (f120_broughamref03_round_out r159_0)), (2, .call [] [] (f120_broughamref03_round_out r159_1)), (3, .call [] [] (f120_broughamref03_round_out r159_2)), (4, .call [] [] (f120_broughamref03_round_out r159_3))], [], [], [5], [0]⟩ 22 ⟨[(5, .one (.c (.ptr 0 0)))], [], [(0, [.d (.int .u64 r159_3.1), .d (.int .u64 r159_3.2.1), .d (.int .u64 r159_3.2.2.1), .d (.int .u64 r159_3.2.2.2)])], 1⟩ [FnOK Go.Proofs.Try.prog 120 (f120_broughamref03_round_in r157_0.1 r157_0.2.1 (bits .xor .u64 r157_0.2.2.1 255) r157_0.2.2.2) (f120_broughamref03_round_out r159_0), FnOK Go.Proofs.Try.prog 120 (f120_broughamref03_round_in r159_0.1 r159_0.2.1 r159_0.2.2.1 r159_0.2.2.2) (f120_broughamref03_round_out r159_1), FnOK Go.Proofs.Try.prog 120 (f120_broughamref03_round_in r159_1.1 r159_1.2.1 r159_1.2.2.1 r159_1.2.2.2) (f120_broughamref03_round_out r159_2), FnOK Go.Proofs.Try.prog 120 (f120_broughamref03_round_in r159_2.1 r159_2.2.1 r159_2.2.2.1 r159_2.2.2.2) (f120_broughamref03_round_out r159_3), 0 + 4 ≤ 4] (by kernel_rfl) ⟨(f120_broughamref03_round_ok r157_0.1 r157_0.2.1 (bits .xor .u64 r157_0.2.2.1 255) r157_0.2.2.2 r159_0 cr159_0), (f120_broughamref03_round_ok r159_0.1 r159_0.2.1 r159_0.2.2.1 r159_0.2.2.2 r159_1 cr159_1), (f120_broughamref03_round_ok r159_1.1 r159_1.2.1 r159_1.2.2.1 r159_1.2.2.2 r159_2 cr159_2), (f120_broughamref03_round_ok r159_2.1 r159_2.2.1 r159_2.2.2.1 r159_2.2.2.2 r159_3 cr159_3), (by decide), trivial⟩ ?_
  have h := Option.some.inj h
  subst h
  exact At.fin hm ht ⟨[], [], [], [4], []⟩ [] (by kernel_rfl) trivial
/-! brougham/broughamref09.Drawn -/
def f50_broughamref09_Drawn_in (seed_0 : Int) (seed_1 : Int) (n_ : Int) : Inn := ⟨[.agg [.d (.int .u64 seed_0), .d (.int .u64 seed_1)], .c (.d (.int .u64 n_))], [], [], 0⟩
def f50_broughamref09_Drawn_out (r : Int) : Out := ⟨.one (.c (.d (.int .u64 r))), [], [], 0⟩
def f50_broughamref09_Drawn (n : Nat) (seed_0 : Int) (seed_1 : Int) (n_ : Int) : Option (Int) :=
  (f85_broughamref02_Put n n_ 8).bind fun r92_0 =>
  (f82_broughamref03_Sum n seed_0 seed_1 r92_0).bind fun r92_1 =>
  some r92_1
theorem f50_broughamref09_Drawn_ok (n : Nat) (seed_0 : Int) (seed_1 : Int) (n_ : Int) (r : Int) (h : f50_broughamref09_Drawn n seed_0 seed_1 n_ = some r) : FnOK Go.Proofs.Try.prog 50 (f50_broughamref09_Drawn_in seed_0 seed_1 n_) (f50_broughamref09_Drawn_out r) := by
  unfold f50_broughamref09_Drawn at h
  refine At.fn (r := 0) Go.Proofs.Try.func50 rfl (by kernel_rfl) rfl rfl (by kernel_rfl) ?_
  show At Go.Proofs.Try.prog Go.Proofs.Try.f50 0 0 ⟨[(0, .one (.agg [.d (.int .u64 seed_0), .d (.int .u64 seed_1)])), (1, .one (.c (.d (.int .u64 n_))))], [], [], 0⟩ _
  refine At.step hm ht ⟨[], [], [], [1, 2], [0]⟩ 1 ⟨[(1, .one (.c (.d (.int .u64 n_)))), (2, .one (.c (.ptr 0 0)))], [], [(0, [.d (.int .u64 seed_0), .d (.int .u64 seed_1)])], 1⟩ [] (by kernel_rfl) trivial ?_
  obtain ⟨r92_0, cr92_0, h⟩ := bindS h
  obtain ⟨r92_1, cr92_1, h⟩ := bindS h
  have h := Option.some.inj h
  subst h
  exact At.fin hm ht ⟨[(2, .call [] [] (f85_broughamref02_Put_out r92_0)), (3, .call [] [] (f82_broughamref03_Sum_out r92_1))], [], [], [4], []⟩ [FnOK Go.Proofs.Try.prog 85 (f85_broughamref02_Put_in n_ 8) (f85_broughamref02_Put_out r92_0), FnOK Go.Proofs.Try.prog 82 (f82_broughamref03_Sum_in seed_0 seed_1 r92_0) (f82_broughamref03_Sum_out r92_1)] (by kernel_rfl) ⟨(f85_broughamref02_Put_ok n n_ 8 r92_0 cr92_0), (f82_broughamref03_Sum_ok n seed_0 seed_1 r92_0 r92_1 cr92_1), trivial⟩
/-! brougham/pack.Q -/
def f86_pack_Q_in (n_ : Int) : Inn := ⟨[.c (.d (.int .u64 n_))], [], [], 0⟩
def f86_pack_Q_out (r : Int × Int) : Out := ⟨.one (.agg [.d (.int .i64 r.1), .d (.int .u64 r.2)]), [], [(0, [.d (.int .i64 r.1), .d (.int .u64 r.2)])], 1⟩
def f86_pack_Q (n_ : Int) : Option (Int × Int) :=
  some (8, n_)
theorem f86_pack_Q_ok (n_ : Int) (r : Int × Int) (h : f86_pack_Q n_ = some r) : FnOK Go.Proofs.Try.prog 86 (f86_pack_Q_in n_) (f86_pack_Q_out r) := by
  unfold f86_pack_Q at h
  refine At.fn (r := 0) Go.Proofs.Try.func86 rfl (by kernel_rfl) rfl rfl (by kernel_rfl) ?_
  show At Go.Proofs.Try.prog Go.Proofs.Try.f86 0 0 ⟨[(0, .one (.c (.d (.int .u64 n_))))], [], [], 0⟩ _
  refine At.step hm ht ⟨[], [], [], [0, 2], [0]⟩ 1 ⟨[(0, .one (.c (.d (.int .u64 n_)))), (2, .one (.c (.ptr 0 0)))], [], [(0, [.d (.int .i64 0), .d (.int .u64 0)])], 1⟩ [] (by kernel_rfl) trivial ?_
  have h := Option.some.inj h
  subst h
  exact At.fin hm ht ⟨[], [], [], [2], [0]⟩ [0 + 2 ≤ 2] (by kernel_rfl) ⟨(by decide), trivial⟩
/-! brougham/pack.Put -/
def f83_pack_Put_in (b : List Int) (l : List (Int × Int)) : Inn := ⟨[.c (.d (.sl (.int .u8) b)), .c (.d (.sl (.pair (.int .i64) (.int .u64)) l))], [], [], 0⟩
def f83_pack_Put_out (r : List Int) : Out := ⟨.one (.c (.own 0 (.int .u8) r)), [(0, ⟨5, 0⟩)], [], 1⟩
def f83_pack_Put_L7 : Nat → (List Int) → Int → (List (Int × Int)) → Int → Int → Int → Int → Option (List Int × (List (Int × Int)) × Int × Int)
  | 0, _, _, _, _, _, _, _ => none
  | n + 1, out, i, t11, t12, t13, f_0, f_1 =>
    if (decide ((i : Int) ≥ 0)) = true then
      if (0 : Int) ≤ (IntKind.wrap .i64 (8 * i)) then
      if out.length + [(IntKind.wrap .u8 (Int.fdiv f_1 (2 ^ (min (IntKind.wrap .i64 (8 * i)).toNat (IntKind.bits .u64)))))].length ≤ maxLen ∧ (out.length + [(IntKind.wrap .u8 (Int.fdiv f_1 (2 ^ (min (IntKind.wrap .i64 (8 * i)).toNat (IntKind.bits .u64)))))].length) * 1 ≤ 140737488355328 then
      f83_pack_Put_L7 n (out ++ [(IntKind.wrap .u8 (Int.fdiv f_1 (2 ^ (min (IntKind.wrap .i64 (8 * i)).toNat (IntKind.bits .u64)))))]) (IntKind.wrap .i64 (i - 1)) t11 t12 t13 f_0 f_1
      else none
      else none
    else
      some ((out, t11, t12, t13))
def f83_pack_Put_L7_k (e : List Int × (List (Int × Int)) × Int × Int) (o : Out) : Prop := At Go.Proofs.Try.prog Go.Proofs.Try.f83 0 10 ⟨[(5, .one (.c (.own 0 (.int .u8) e.1))), (11, .one (.c (.d (.sl (.pair (.int .i64) (.int .u64)) e.2.1)))), (12, .one (.c (.d (.int .i64 e.2.2.1)))), (13, .one (.c (.d (.int .i64 e.2.2.2))))], [(0, some ⟨5, 0⟩)], [], 1⟩ o
theorem f83_pack_Put_L7_ok (n : Nat) : ∀ (out : List Int) (i : Int) (t11 : List (Int × Int)) (t12 : Int) (t13 : Int) (f_0 : Int) (f_1 : Int) (w : List Int × (List (Int × Int)) × Int × Int) (h : f83_pack_Put_L7 n out i t11 t12 t13 f_0 f_1 = some w) (o : Out) (hk : f83_pack_Put_L7_k w o), At Go.Proofs.Try.prog Go.Proofs.Try.f83 0 7 ⟨[(5, .one (.c (.own 0 (.int .u8) out))), (7, .one (.c (.ptr 1 0))), (8, .one (.c (.d (.int .i64 i)))), (11, .one (.c (.d (.sl (.pair (.int .i64) (.int .u64)) t11)))), (12, .one (.c (.d (.int .i64 t12)))), (13, .one (.c (.d (.int .i64 t13))))], [(0, some ⟨5, 0⟩)], [(1, [.d (.int .i64 f_0), .d (.int .u64 f_1)])], 2⟩ o := by
  induction n with
  | zero => intro out i t11 t12 t13 f_0 f_1 w h; rw [f83_pack_Put_L7] at h; cases h
  | succ n ih =>
    intro out i t11 t12 t13 f_0 f_1 w h o hk
    rw [f83_pack_Put_L7] at h
    rcases iteS h with ⟨b175_e0, h⟩ | ⟨b175_e0, h⟩
    · refine At.step hm ht ⟨[], [true], [], [5, 7, 8, 11, 12, 13], [0, 1]⟩ 9 ⟨[(5, .one (.c (.own 0 (.int .u8) out))), (7, .one (.c (.ptr 1 0))), (8, .one (.c (.d (.int .i64 i)))), (11, .one (.c (.d (.sl (.pair (.int .i64) (.int .u64)) t11)))), (12, .one (.c (.d (.int .i64 t12)))), (13, .one (.c (.d (.int .i64 t13))))], [(0, some ⟨5, 0⟩)], [(1, [.d (.int .i64 f_0), .d (.int .u64 f_1)])], 2⟩ [(decide ((i : Int) ≥ 0)) = true] (by kernel_rfl) ⟨b175_e0, trivial⟩ ?_
      obtain ⟨g176_0, h⟩ := ifS h
      obtain ⟨g176_1, h⟩ := ifS h
      refine At.step hm ht ⟨[], [], [], [5, 7, 8, 11, 12, 13], [10, 1]⟩ 8 ⟨[(5, .one (.c (.own 0 (.int .u8) (out ++ [(IntKind.wrap .u8 (Int.fdiv f_1 (2 ^ (min (IntKind.wrap .i64 (8 * i)).toNat (IntKind.bits .u64)))))])))), (7, .one (.c (.ptr 1 0))), (8, .one (.c (.d (.int .i64 i)))), (11, .one (.c (.d (.sl (.pair (.int .i64) (.int .u64)) t11)))), (12, .one (.c (.d (.int .i64 t12)))), (13, .one (.c (.d (.int .i64 t13))))], [(0, some ⟨5, 0⟩)], [(1, [.d (.int .i64 f_0), .d (.int .u64 f_1)])], 2⟩ [(0 : Int) ≤ (IntKind.wrap .i64 (8 * i)), out.length + [(IntKind.wrap .u8 (Int.fdiv f_1 (2 ^ (min (IntKind.wrap .i64 (8 * i)).toNat (IntKind.bits .u64)))))].length ≤ maxLen ∧ (out.length + [(IntKind.wrap .u8 (Int.fdiv f_1 (2 ^ (min (IntKind.wrap .i64 (8 * i)).toNat (IntKind.bits .u64)))))].length) * 1 ≤ 140737488355328] (by kernel_rfl) ⟨g176_0, g176_1, trivial⟩ ?_
      refine At.step hm ht ⟨[], [], [], [5, 7, 8, 11, 12, 13], [0, 1]⟩ 7 ⟨[(5, .one (.c (.own 0 (.int .u8) (out ++ [(IntKind.wrap .u8 (Int.fdiv f_1 (2 ^ (min (IntKind.wrap .i64 (8 * i)).toNat (IntKind.bits .u64)))))])))), (7, .one (.c (.ptr 1 0))), (8, .one (.c (.d (.int .i64 (IntKind.wrap .i64 (i - 1)))))), (11, .one (.c (.d (.sl (.pair (.int .i64) (.int .u64)) t11)))), (12, .one (.c (.d (.int .i64 t12)))), (13, .one (.c (.d (.int .i64 t13))))], [(0, some ⟨5, 0⟩)], [(1, [.d (.int .i64 f_0), .d (.int .u64 f_1)])], 2⟩ [] (by kernel_rfl) trivial ?_
      exact ih (out ++ [(IntKind.wrap .u8 (Int.fdiv f_1 (2 ^ (min (IntKind.wrap .i64 (8 * i)).toNat (IntKind.bits .u64)))))]) (IntKind.wrap .i64 (i - 1)) t11 t12 t13 f_0 f_1 w h o hk
    · refine At.step hm ht ⟨[], [false], [], [5, 11, 12, 13], [0]⟩ 10 ⟨[(5, .one (.c (.own 0 (.int .u8) out))), (11, .one (.c (.d (.sl (.pair (.int .i64) (.int .u64)) t11)))), (12, .one (.c (.d (.int .i64 t12)))), (13, .one (.c (.d (.int .i64 t13))))], [(0, some ⟨5, 0⟩)], [], 1⟩ [(decide ((i : Int) ≥ 0)) = false] (by kernel_rfl) ⟨b175_e0, trivial⟩ ?_
      have h := Option.some.inj h
      subst h
      exact hk
def f83_pack_Put_L3 : Nat → (List Int) → (List (Int × Int)) → Int → Int → Option (List Int)
  | 0, _, _, _, _ => none
  | n + 1, out, t11, t12, t13 =>
    if (decide ((t13 : Int) < t12)) = true then
      if (0 : Int) ≤ t13 ∧ t13 < (((t11).length : Nat) : Int) then
      if (decide ((((t11.getD t13.toNat (0, 0)).1) : Int) < 1)) = true then
        f83_pack_Put_L3 n out t11 t12 (IntKind.wrap .i64 (t13 + 1))
      else
        if (decide ((((t11.getD t13.toNat (0, 0)).1) : Int) > 8)) = true then
          f83_pack_Put_L3 n out t11 t12 (IntKind.wrap .i64 (t13 + 1))
        else
          (f83_pack_Put_L7 n out (IntKind.wrap .i64 (((t11.getD t13.toNat (0, 0)).1) - 1)) t11 t12 t13 ((t11.getD t13.toNat (0, 0)).1) ((t11.getD t13.toNat (0, 0)).2)).bind fun w178 =>
          f83_pack_Put_L3 n w178.1 w178.2.1 w178.2.2.1 (IntKind.wrap .i64 (w178.2.2.2 + 1))
      else none
    else
      some (out)
def f83_pack_Put_L3_k (e : List Int) (o : Out) : Prop := At Go.Proofs.Try.prog Go.Proofs.Try.f83 0 11 ⟨[(5, .one (.c (.own 0 (.int .u8) e)))], [(0, some ⟨5, 0⟩)], [], 1⟩ o
theorem f83_pack_Put_L3_ok (n : Nat) : ∀ (out : List Int) (t11 : List (Int × Int)) (t12 : Int) (t13 : Int) (w : List Int) (h : f83_pack_Put_L3 n out t11 t12 t13 = some w) (o : Out) (hk : f83_pack_Put_L3_k w o), At Go.Proofs.Try.prog Go.Proofs.Try.f83 0 3 ⟨[(5, .one (.c (.own 0 (.int .u8) out))), (11, .one (.c (.d (.sl (.pair (.int .i64) (.int .u64)) t11)))), (12, .one (.c (.d (.int .i64 t12)))), (13, .one (.c (.d (.int .i64 t13))))], [(0, some ⟨5, 0⟩)], [], 1⟩ o := by
  induction n with
  | zero => intro out t11 t12 t13 w h; rw [f83_pack_Put_L3] at h; cases h
  | succ n ih =>
    intro out t11 t12 t13 w h o hk
    rw [f83_pack_Put_L3] at h
    rcases iteS h with ⟨b169_e0, h⟩ | ⟨b169_e0, h⟩
    · refine At.step hm ht ⟨[], [true], [], [5, 11, 12, 13], [0]⟩ 4 ⟨[(5, .one (.c (.own 0 (.int .u8) out))), (11, .one (.c (.d (.sl (.pair (.int .i64) (.int .u64)) t11)))), (12, .one (.c (.d (.int .i64 t12)))), (13, .one (.c (.d (.int .i64 t13))))], [(0, some ⟨5, 0⟩)], [], 1⟩ [(decide ((t13 : Int) < t12)) = true] (by kernel_rfl) ⟨b169_e0, trivial⟩ ?_
      obtain ⟨g170_0, h⟩ := ifS h
      refine At.step hm ht ⟨[], [], [], [5, 7, 11, 12, 13], [0, 3]⟩ 5 ⟨[(5, .one (.c (.own 0 (.int .u8) out))), (7, .one (.c (.ptr 1 0))), (11, .one (.c (.d (.sl (.pair (.int .i64) (.int .u64)) t11)))), (12, .one (.c (.d (.int .i64 t12)))), (13, .one (.c (.d (.int .i64 t13))))], [(0, some ⟨5, 0⟩)], [(1, [.d (.int .i64 ((t11.getD t13.toNat (0, 0)).1)), .d (.int .u64 ((t11.getD t13.toNat (0, 0)).2))])], 2⟩ [(0 : Int) ≤ t13 ∧ t13 < (((t11).length : Nat) : Int), 0 + 2 ≤ 2] (by kernel_rfl) ⟨g170_0, (by decide), trivial⟩ ?_
      rcases iteS h with ⟨b171_3, h⟩ | ⟨b171_3, h⟩
      · refine At.step hm ht ⟨[(3, .b true)], [true], [], [5, 11, 12, 13], [0]⟩ 10 ⟨[(5, .one (.c (.own 0 (.int .u8) out))), (11, .one (.c (.d (.sl (.pair (.int .i64) (.int .u64)) t11)))), (12, .one (.c (.d (.int .i64 t12)))), (13, .one (.c (.d (.int .i64 t13))))], [(0, some ⟨5, 0⟩)], [], 1⟩ [(decide ((((t11.getD t13.toNat (0, 0)).1) : Int) < 1)) = true, true = true] (by kernel_rfl) ⟨b171_3, rfl, trivial⟩ ?_
        refine At.step hm ht ⟨[], [], [], [5, 11, 12, 13], [0]⟩ 3 ⟨[(5, .one (.c (.own 0 (.int .u8) out))), (11, .one (.c (.d (.sl (.pair (.int .i64) (.int .u64)) t11)))), (12, .one (.c (.d (.int .i64 t12)))), (13, .one (.c (.d (.int .i64 (IntKind.wrap .i64 (t13 + 1))))))], [(0, some ⟨5, 0⟩)], [], 1⟩ [] (by kernel_rfl) trivial ?_
        exact ih out t11 t12 (IntKind.wrap .i64 (t13 + 1)) w h o hk
      · rcases iteS h with ⟨b171_e0, h⟩ | ⟨b171_e0, h⟩
        · refine At.step hm ht ⟨[(3, .b false)], [true], [], [5, 11, 12, 13], [0]⟩ 10 ⟨[(5, .one (.c (.own 0 (.int .u8) out))), (11, .one (.c (.d (.sl (.pair (.int .i64) (.int .u64)) t11)))), (12, .one (.c (.d (.int .i64 t12)))), (13, .one (.c (.d (.int .i64 t13))))], [(0, some ⟨5, 0⟩)], [], 1⟩ [(decide ((((t11.getD t13.toNat (0, 0)).1) : Int) < 1)) = false, (decide ((((t11.getD t13.toNat (0, 0)).1) : Int) > 8)) = true] (by kernel_rfl) ⟨b171_3, b171_e0, trivial⟩ ?_
          refine At.step hm ht ⟨[], [], [], [5, 11, 12, 13], [0]⟩ 3 ⟨[(5, .one (.c (.own 0 (.int .u8) out))), (11, .one (.c (.d (.sl (.pair (.int .i64) (.int .u64)) t11)))), (12, .one (.c (.d (.int .i64 t12)))), (13, .one (.c (.d (.int .i64 (IntKind.wrap .i64 (t13 + 1))))))], [(0, some ⟨5, 0⟩)], [], 1⟩ [] (by kernel_rfl) trivial ?_
          exact ih out t11 t12 (IntKind.wrap .i64 (t13 + 1)) w h o hk
        · refine At.step hm ht ⟨[(3, .b false)], [false], [], [5, 7, 11, 12, 13], [0, 1]⟩ 6 ⟨[(5, .one (.c (.own 0 (.int .u8) out))), (7, .one (.c (.ptr 1 0))), (11, .one (.c (.d (.sl (.pair (.int .i64) (.int .u64)) t11)))), (12, .one (.c (.d (.int .i64 t12)))), (13, .one (.c (.d (.int .i64 t13))))], [(0, some ⟨5, 0⟩)], [(1, [.d (.int .i64 ((t11.getD t13.toNat (0, 0)).1)), .d (.int .u64 ((t11.getD t13.toNat (0, 0)).2))])], 2⟩ [(decide ((((t11.getD t13.toNat (0, 0)).1) : Int) < 1)) = false, (decide ((((t11.getD t13.toNat (0, 0)).1) : Int) > 8)) = false] (by kernel_rfl) ⟨b171_3, b171_e0, trivial⟩ ?_
          refine At.step hm ht ⟨[], [], [], [5, 7, 8, 11, 12, 13], [0, 1]⟩ 7 ⟨[(5, .one (.c (.own 0 (.int .u8) out))), (7, .one (.c (.ptr 1 0))), (8, .one (.c (.d (.int .i64 (IntKind.wrap .i64 (((t11.getD t13.toNat (0, 0)).1) - 1)))))), (11, .one (.c (.d (.sl (.pair (.int .i64) (.int .u64)) t11)))), (12, .one (.c (.d (.int .i64 t12)))), (13, .one (.c (.d (.int .i64 t13))))], [(0, some ⟨5, 0⟩)], [(1, [.d (.int .i64 ((t11.getD t13.toNat (0, 0)).1)), .d (.int .u64 ((t11.getD t13.toNat (0, 0)).2))])], 2⟩ [] (by kernel_rfl) trivial ?_
          obtain ⟨w178, cw178, h⟩ := bindS h
          refine f83_pack_Put_L7_ok n out (IntKind.wrap .i64 (((t11.getD t13.toNat (0, 0)).1) - 1)) t11 t12 t13 ((t11.getD t13.toNat (0, 0)).1) ((t11.getD t13.toNat (0, 0)).2) w178 cw178 _ ?_
          show At Go.Proofs.Try.prog Go.Proofs.Try.f83 0 10 ⟨[(5, .one (.c (.own 0 (.int .u8) w178.1))), (11, .one (.c (.d (.sl (.pair (.int .i64) (.int .u64)) w178.2.1)))), (12, .one (.c (.d (.int .i64 w178.2.2.1)))), (13, .one (.c (.d (.int .i64 w178.2.2.2))))], [(0, some ⟨5, 0⟩)], [], 1⟩ _
          refine At.step hm ht ⟨[], [], [], [5, 11, 12, 13], [0]⟩ 3 ⟨[(5, .one (.c (.own 0 (.int .u8) w178.1))), (11, .one (.c (.d (.sl (.pair (.int .i64) (.int .u64)) w178.2.1)))), (12, .one (.c (.d (.int .i64 w178.2.2.1)))), (13, .one (.c (.d (.int .i64 (IntKind.wrap .i64 (w178.2.2.2 + 1))))))], [(0, some ⟨5, 0⟩)], [], 1⟩ [] (by kernel_rfl) trivial ?_
          exact ih w178.1 w178.2.1 w178.2.2.1 (IntKind.wrap .i64 (w178.2.2.2 + 1)) w h o hk
    · refine At.step hm ht ⟨[], [false], [], [5], [0]⟩ 11 ⟨[(5, .one (.c (.own 0 (.int .u8) out)))], [(0, some ⟨5, 0⟩)], [], 1⟩ [(decide ((t13 : Int) < t12)) = false] (by kernel_rfl) ⟨b169_e0, trivial⟩ ?_
      have h := Option.some.inj h
      subst h
      exact hk
def f83_pack_Put (n : Nat) (b : List Int) (l : List (Int × Int)) : Option (List Int) :=
  if b.length ≤ maxLen ∧ b.length * 1 ≤ 140737488355328 then
  (f83_pack_Put_L3 n b l ((l.length : Nat) : Int) 0).bind fun w181 =>
  some w181
  else none
theorem f83_pack_Put_ok (n : Nat) (b : List Int) (l : List (Int × Int)) (r : List Int) (h : f83_pack_Put n b l = some r) : FnOK Go.Proofs.Try.prog 83 (f83_pack_Put_in b l) (f83_pack_Put_out r) := by
  unfold f83_pack_Put at h
  refine At.fn (r := 0) Go.Proofs.Try.func83 rfl (by kernel_rfl) rfl rfl (by kernel_rfl) ?_
  show At Go.Proofs.Try.prog Go.Proofs.Try.f83 0 0 ⟨[(0, .one (.c (.d (.sl (.int .u8) b)))), (1, .one (.c (.d (.sl (.pair (.int .i64) (.int .u64)) l))))], [], [], 0⟩ _
  refine At.step hm ht ⟨[], [], [], [0, 1], []⟩ 1 ⟨[(0, .one (.c (.d (.sl (.int .u8) b)))), (1, .one (.c (.d (.sl (.pair (.int .i64) (.int .u64)) l))))], [], [], 0⟩ [] (by kernel_rfl) trivial ?_
  obtain ⟨g167_0, h⟩ := ifS h
  refine At.step hm ht ⟨[], [], [], [1, 5], [1]⟩ 2 ⟨[(1, .one (.c (.d (.sl (.pair (.int .i64) (.int .u64)) l)))), (5, .one (.c (.own 0 (.int .u8) b)))], [(0, some ⟨5, 0⟩)], [], 1⟩ [b.length ≤ maxLen ∧ b.length * 1 ≤ 140737488355328] (by kernel_rfl) ⟨g167_0, trivial⟩ ?_
  refine At.step hm ht ⟨[], [], [], [5, 11, 12, 13], [0]⟩ 3 ⟨[(5, .one (.c (.own 0 (.int .u8) b))), (11, .one (.c (.d (.sl (.pair (.int .i64) (.int .u64)) l)))), (12, .one (.c (.d (.int .i64 ((l.length : Nat) : Int))))), (13, .one (.c (.d (.int .i64 0))))], [(0, some ⟨5, 0⟩)], [], 1⟩ [] (by kernel_rfl) trivial ?_
  obtain ⟨w181, cw181, h⟩ := bindS h
  refine f83_pack_Put_L3_ok n b l ((l.length : Nat) : Int) 0 w181 cw181 _ ?_
  show At Go.Proofs.Try.prog Go.Proofs.Try.f83 0 11 ⟨[(5, .one (.c (.own 0 (.int .u8) w181)))], [(0, some ⟨5, 0⟩)], [], 1⟩ _
  have h := Option.some.inj h
  subst h
  exact At.fin hm ht ⟨[], [], [], [4], [0]⟩ [] (by kernel_rfl) trivial
/-! brougham/keys.Drawn -/
def f51_keys_Drawn_in (seed_0 : Int) (seed_1 : Int) (n_ : Int) : Inn := ⟨[.agg [.d (.int .u64 seed_0), .d (.int .u64 seed_1)], .c (.d (.int .u64 n_))], [], [], 0⟩
def f51_keys_Drawn_out (r : Int) : Out := ⟨.one (.c (.d (.int .u64 r))), [], [], 0⟩
def f51_keys_Drawn (n : Nat) (seed_0 : Int) (seed_1 : Int) (n_ : Int) : Option (Int) :=
  (f86_pack_Q n_).bind fun r163_0 =>
  (f83_pack_Put n [] [r163_0]).bind fun r163_1 =>
  (f80_sip_Sum n seed_0 seed_1 [r163_1]).bind fun r163_2 =>
  some r163_2
theorem f51_keys_Drawn_ok (n : Nat) (seed_0 : Int) (seed_1 : Int) (n_ : Int) (r : Int) (h : f51_keys_Drawn n seed_0 seed_1 n_ = some r) : FnOK Go.Proofs.Try.prog 51 (f51_keys_Drawn_in seed_0 seed_1 n_) (f51_keys_Drawn_out r) := by
  unfold f51_keys_Drawn at h
  refine At.fn (r := 0) Go.Proofs.Try.func51 rfl (by kernel_rfl) rfl rfl (by kernel_rfl) ?_
  show At Go.Proofs.Try.prog Go.Proofs.Try.f51 0 0 ⟨[(0, .one (.agg [.d (.int .u64 seed_0), .d (.int .u64 seed_1)])), (1, .one (.c (.d (.int .u64 n_))))], [], [], 0⟩ _
  refine At.step hm ht ⟨[], [], [], [1, 2], [0]⟩ 1 ⟨[(1, .one (.c (.d (.int .u64 n_)))), (2, .one (.c (.ptr 0 0)))], [], [(0, [.d (.int .u64 seed_0), .d (.int .u64 seed_1)])], 1⟩ [] (by kernel_rfl) trivial ?_
  obtain ⟨r163_0, cr163_0, h⟩ := bindS h
  obtain ⟨r163_1, cr163_1, h⟩ := bindS h
  obtain ⟨r163_2, cr163_2, h⟩ := bindS h
  have h := Option.some.inj h
  subst h
  exact At.fin hm ht ⟨[(2, .call [] [] (f86_pack_Q_out r163_0)), (4, .call [] [(0, 0, (.int .u8))] (f83_pack_Put_out r163_1)), (6, .call [] [] (f80_sip_Sum_out r163_2))], [], [], [4], []⟩ [FnOK Go.Proofs.Try.prog 86 (f86_pack_Q_in n_) (f86_pack_Q_out r163_0), FnOK Go.Proofs.Try.prog 83 (f83_pack_Put_in [] [r163_0]) (f83_pack_Put_out r163_1), FnOK Go.Proofs.Try.prog 80 (f80_sip_Sum_in seed_0 seed_1 [r163_1]) (f80_sip_Sum_out r163_2)] (by kernel_rfl) ⟨(f86_pack_Q_ok n_ r163_0 cr163_0), (f83_pack_Put_ok n [] [r163_0] r163_1 cr163_1), (f80_sip_Sum_ok n seed_0 seed_1 [r163_1] r163_2 cr163_2), trivial⟩
/-! (*brougham/keys.Source).Draw -/
def f52_keys_Source_Draw_in (s_0 : Int) (s_1 : Int) (s_2 : Int) : Inn := ⟨[.c (.ptr 0 0)], [], [(0, [.d (.int .u64 s_0), .d (.int .u64 s_1), .d (.int .u64 s_2)])], 1⟩
def f52_keys_Source_Draw_out (r : Int × Int × Int × Int) : Out := ⟨.one (.c (.d (.int .u64 r.1))), [], [(0, [.d (.int .u64 r.2.1), .d (.int .u64 r.2.2.1), .d (.int .u64 r.2.2.2)])], 1⟩
def f52_keys_Source_Draw (n : Nat) (s_0 : Int) (s_1 : Int) (s_2 : Int) : Option (Int × Int × Int × Int) :=
  (f51_keys_Drawn n s_0 s_1 (IntKind.wrap .u64 ((IntKind.wrap .u64 (s_2 + 1)) - 1))).bind fun r187_0 =>
  some (r187_0, s_0, s_1, (IntKind.wrap .u64 (s_2 + 1)))
theorem f52_keys_Source_Draw_ok (n : Nat) (s_0 : Int) (s_1 : Int) (s_2 : Int) (r : Int × Int × Int × Int) (h : f52_keys_Source_Draw n s_0 s_1 s_2 = some r) : FnOK Go.Proofs.Try.prog 52 (f52_keys_Source_Draw_in s_0 s_1 s_2) (f52_keys_Source_Draw_out r) := by
  unfold f52_keys_Source_Draw at h
  refine At.fn (r := 0) Go.Proofs.Try.func52 rfl (by kernel_rfl) rfl rfl (by kernel_rfl) ?_
  show At Go.Proofs.Try.prog Go.Proofs.Try.f52 1 0 ⟨[(0, .one (.c (.ptr 0 0)))], [], [(0, [.d (.int .u64 s_0), .d (.int .u64 s_1), .d (.int .u64 s_2)])], 1⟩ _
  refine At.step hm ht ⟨[], [], [], [0], [0]⟩ 1 ⟨[(0, .one (.c (.ptr 0 0)))], [], [(0, [.d (.int .u64 s_0), .d (.int .u64 s_1), .d (.int .u64 s_2)])], 1⟩ [] (by kernel_rfl) trivial ?_
  refine At.step hm ht ⟨[], [], [], [0], [0]⟩ 2 ⟨[(0, .one (.c (.ptr 0 0)))], [], [(0, [.d (.int .u64 s_0), .d (.int .u64 s_1), .d (.int .u64 (IntKind.wrap .u64 (s_2 + 1)))])], 1⟩ [2 + 1 ≤ 3] (by kernel_rfl) ⟨(by decide), trivial⟩ ?_
  obtain ⟨r187_0, cr187_0, h⟩ := bindS h
  have h := Option.some.inj h
  subst h
  exact At.fin hm ht ⟨[(9, .call [] [] (f51_keys_Drawn_out r187_0))], [], [], [2], [0]⟩ [FnOK Go.Proofs.Try.prog 51 (f51_keys_Drawn_in s_0 s_1 (IntKind.wrap .u64 ((IntKind.wrap .u64 (s_2 + 1)) - 1))) (f51_keys_Drawn_out r187_0)] (by kernel_rfl) ⟨(f51_keys_Drawn_ok n s_0 s_1 (IntKind.wrap .u64 ((IntKind.wrap .u64 (s_2 + 1)) - 1)) r187_0 cr187_0), trivial⟩
/-! brougham/keys.Flow -/
def f53_keys_Flow_in (k_0 : Int) (k_1 : Int) (id : Int) : Inn := ⟨[.agg [.d (.int .u64 k_0), .d (.int .u64 k_1)], .c (.d (.int .u8 id))], [], [], 0⟩
def f53_keys_Flow_out (r : Int × Int) : Out := ⟨.one (.agg [.d (.int .u64 r.1), .d (.int .u64 r.2)]), [], [(0, [.d (.int .u64 r.1), .d (.int .u64 r.2)])], 1⟩
def f53_keys_Flow (n : Nat) (k_0 : Int) (k_1 : Int) (id : Int) : Option (Int × Int) :=
  (f79_sip_Pair n k_0 k_1 [[102, id]]).bind fun r196_0 =>
  some (r196_0.1, r196_0.2)
theorem f53_keys_Flow_ok (n : Nat) (k_0 : Int) (k_1 : Int) (id : Int) (r : Int × Int) (h : f53_keys_Flow n k_0 k_1 id = some r) : FnOK Go.Proofs.Try.prog 53 (f53_keys_Flow_in k_0 k_1 id) (f53_keys_Flow_out r) := by
  unfold f53_keys_Flow at h
  refine At.fn (r := 0) Go.Proofs.Try.func53 rfl (by kernel_rfl) rfl rfl (by kernel_rfl) ?_
  show At Go.Proofs.Try.prog Go.Proofs.Try.f53 0 0 ⟨[(0, .one (.agg [.d (.int .u64 k_0), .d (.int .u64 k_1)])), (1, .one (.c (.d (.int .u8 id))))], [], [], 0⟩ _
  refine At.step hm ht ⟨[], [], [], [1, 2, 4], [0, 1]⟩ 1 ⟨[(1, .one (.c (.d (.int .u8 id)))), (2, .one (.c (.ptr 0 0))), (4, .one (.c (.ptr 1 0)))], [], [(0, [.d (.int .u64 k_0), .d (.int .u64 k_1)]), (1, [.d (.int .u64 0), .d (.int .u64 0)])], 2⟩ [] (by kernel_rfl) trivial ?_
  obtain ⟨r196_0, cr196_0, h⟩ := bindS h
  have h := Option.some.inj h
  subst h
  exact At.fin hm ht ⟨[(4, .call [] [] (f79_sip_Pair_out r196_0))], [], [], [4], [1]⟩ [FnOK Go.Proofs.Try.prog 79 (f79_sip_Pair_in k_0 k_1 [[102, id]]) (f79_sip_Pair_out r196_0), 0 + 2 ≤ 2] (by kernel_rfl) ⟨(f79_sip_Pair_ok n k_0 k_1 [[102, id]] r196_0 cr196_0), (by decide), trivial⟩
/-! brougham/broughamref03.Pair -/
def f81_broughamref03_Pair_in (k_0 : Int) (k_1 : Int) (b : List Int) : Inn := ⟨[.agg [.d (.int .u64 k_0), .d (.int .u64 k_1)], .c (.d (.sl (.int .u8) b))], [], [], 0⟩
def f81_broughamref03_Pair_out (r : Int × Int) : Out := ⟨.one (.agg [.d (.int .u64 r.1), .d (.int .u64 r.2)]), [], [(0, [.d (.int .u64 r.1), .d (.int .u64 r.2)])], 1⟩
def f81_broughamref03_Pair (n : Nat) (k_0 : Int) (k_1 : Int) (b : List Int) : Option (Int × Int) :=
  if [1].length + b.length ≤ maxLen ∧ ([1].length + b.length) * 1 ≤ 140737488355328 then
  (f82_broughamref03_Sum n k_0 k_1 ([1] ++ b)).bind fun r200_1 =>
  if [2].length + b.length ≤ maxLen ∧ ([2].length + b.length) * 1 ≤ 140737488355328 then
  (f82_broughamref03_Sum n k_0 k_1 ([2] ++ b)).bind fun r200_3 =>
  some (r200_1, r200_3)
  else none
  else none
theorem f81_broughamref03_Pair_ok (n : Nat) (k_0 : Int) (k_1 : Int) (b : List Int) (r : Int × Int) (h : f81_broughamref03_Pair n k_0 k_1 b = some r) : FnOK Go.Proofs.Try.prog 81 (f81_broughamref03_Pair_in k_0 k_1 b) (f81_broughamref03_Pair_out r) := by
  unfold f81_broughamref03_Pair at h
  refine At.fn (r := 0) Go.Proofs.Try.func81 rfl (by kernel_rfl) rfl rfl (by kernel_rfl) ?_
  show At Go.Proofs.Try.prog Go.Proofs.Try.f81 0 0 ⟨[(0, .one (.agg [.d (.int .u64 k_0), .d (.int .u64 k_1)])), (1, .one (.c (.d (.sl (.int .u8) b))))], [], [], 0⟩ _
  refine At.step hm ht ⟨[], [], [], [1, 2, 4], [0, 1]⟩ 1 ⟨[(1, .one (.c (.d (.sl (.int .u8) b)))), (2, .one (.c (.ptr 0 0))), (4, .one (.c (.ptr 1 0)))], [], [(0, [.d (.int .u64 k_0), .d (.int .u64 k_1)]), (1, [.d (.int .u64 0), .d (.int .u64 0)])], 2⟩ [] (by kernel_rfl) trivial ?_
  obtain ⟨g200_0, h⟩ := ifS h
  obtain ⟨r200_1, cr200_1, h⟩ := bindS h
  obtain ⟨g200_2, h⟩ := ifS h
  obtain ⟨r200_3, cr200_3, h⟩ := bindS h
  have h := Option.some.inj h
  subst h
  exact At.fin hm ht ⟨[(4, .call [] [] (f82_broughamref03_Sum_out r200_1)), (9, .call [] [] (f82_broughamref03_Sum_out r200_3))], [], [], [4], [1]⟩ [[1].length + b.length ≤ maxLen ∧ ([1].length + b.length) * 1 ≤ 140737488355328, FnOK Go.Proofs.Try.prog 82 (f82_broughamref03_Sum_in k_0 k_1 ([1] ++ b)) (f82_broughamref03_Sum_out r200_1), [2].length + b.length ≤ maxLen ∧ ([2].length + b.length) * 1 ≤ 140737488355328, FnOK Go.Proofs.Try.prog 82 (f82_broughamref03_Sum_in k_0 k_1 ([2] ++ b)) (f82_broughamref03_Sum_out r200_3), 0 + 2 ≤ 2] (by kernel_rfl) ⟨g200_0, (f82_broughamref03_Sum_ok n k_0 k_1 ([1] ++ b) r200_1 cr200_1), g200_2, (f82_broughamref03_Sum_ok n k_0 k_1 ([2] ++ b) r200_3 cr200_3), (by decide), trivial⟩
/-! brougham/broughamref09.Flow -/
def f54_broughamref09_Flow_in (k_0 : Int) (k_1 : Int) (id : Int) : Inn := ⟨[.agg [.d (.int .u64 k_0), .d (.int .u64 k_1)], .c (.d (.int .u8 id))], [], [], 0⟩
def f54_broughamref09_Flow_out (r : Int × Int) : Out := ⟨.one (.agg [.d (.int .u64 r.1), .d (.int .u64 r.2)]), [], [(0, [.d (.int .u64 r.1), .d (.int .u64 r.2)])], 1⟩
def f54_broughamref09_Flow (n : Nat) (k_0 : Int) (k_1 : Int) (id : Int) : Option (Int × Int) :=
  (f81_broughamref03_Pair n k_0 k_1 [102, id]).bind fun r198_0 =>
  some (r198_0.1, r198_0.2)
theorem f54_broughamref09_Flow_ok (n : Nat) (k_0 : Int) (k_1 : Int) (id : Int) (r : Int × Int) (h : f54_broughamref09_Flow n k_0 k_1 id = some r) : FnOK Go.Proofs.Try.prog 54 (f54_broughamref09_Flow_in k_0 k_1 id) (f54_broughamref09_Flow_out r) := by
  unfold f54_broughamref09_Flow at h
  refine At.fn (r := 0) Go.Proofs.Try.func54 rfl (by kernel_rfl) rfl rfl (by kernel_rfl) ?_
  show At Go.Proofs.Try.prog Go.Proofs.Try.f54 0 0 ⟨[(0, .one (.agg [.d (.int .u64 k_0), .d (.int .u64 k_1)])), (1, .one (.c (.d (.int .u8 id))))], [], [], 0⟩ _
  refine At.step hm ht ⟨[], [], [], [1, 2, 4], [0, 1]⟩ 1 ⟨[(1, .one (.c (.d (.int .u8 id)))), (2, .one (.c (.ptr 0 0))), (4, .one (.c (.ptr 1 0)))], [], [(0, [.d (.int .u64 k_0), .d (.int .u64 k_1)]), (1, [.d (.int .u64 0), .d (.int .u64 0)])], 2⟩ [] (by kernel_rfl) trivial ?_
  obtain ⟨r198_0, cr198_0, h⟩ := bindS h
  have h := Option.some.inj h
  subst h
  exact At.fin hm ht ⟨[(3, .call [] [] (f81_broughamref03_Pair_out r198_0))], [], [], [4], [1]⟩ [FnOK Go.Proofs.Try.prog 81 (f81_broughamref03_Pair_in k_0 k_1 [102, id]) (f81_broughamref03_Pair_out r198_0), 0 + 2 ≤ 2] (by kernel_rfl) ⟨(f81_broughamref03_Pair_ok n k_0 k_1 [102, id] r198_0 cr198_0), (by decide), trivial⟩
/-! brougham/broughamlaw09.KeysDraws -/
def f12_broughamlaw09_KeysDraws_in (seed_0 : Int) (seed_1 : Int) (x_0 : Int) (x_1 : Int) (id : Int) : Inn := ⟨[.agg [.d (.int .u64 seed_0), .d (.int .u64 seed_1)], .agg [.d (.int .u64 x_0), .d (.int .i64 x_1)], .c (.d (.int .u8 id))], [], [], 0⟩
def f12_broughamlaw09_KeysDraws_out (r : Bool) : Out := ⟨.one (.c (.d (.bool r))), [], [], 0⟩
def f12_broughamlaw09_KeysDraws_L6 : Nat → Int → Int → Int → Int → Int → Int → Int → Int → Int → Option ((Bool) ⊕ (Int × Int × Int))
  | 0, _, _, _, _, _, _, _, _, _ => none
  | n + 1, id, from_, many, i, seed_0, seed_1, s_0, s_1, s_2 =>
    if (decide ((i : Int) < many)) = true then
      (f50_broughamref09_Drawn n seed_0 seed_1 (IntKind.wrap .u64 (from_ + (IntKind.wrap .u64 i)))).bind fun r90_0 =>
      (f51_keys_Drawn n seed_0 seed_1 (IntKind.wrap .u64 (from_ + (IntKind.wrap .u64 i)))).bind fun r161_0 =>
      if ((r161_0 : Int) != r90_0) = true then
        some (.inl false)
      else
        (f52_keys_Source_Draw n s_0 s_1 s_2).bind fun r161_1 =>
        if ((r161_1.1 : Int) != r90_0) = true then
          some (.inl false)
        else
          if ((r161_1.2.2.2 : Int) != (IntKind.wrap .u64 ((IntKind.wrap .u64 (from_ + (IntKind.wrap .u64 i))) + 1))) = true then
            some (.inl false)
          else
            f12_broughamlaw09_KeysDraws_L6 n id from_ many (IntKind.wrap .i64 (i + 1)) seed_0 seed_1 r161_1.2.1 r161_1.2.2.1 r161_1.2.2.2
    else
      some (.inr ((id, seed_0, seed_1)))
def f12_broughamlaw09_KeysDraws_L6_k (w : (Bool) ⊕ (Int × Int × Int)) (o : Out) : Prop := match w with
  | .inl e => o = f12_broughamlaw09_KeysDraws_out e
  | .inr e => At Go.Proofs.Try.prog Go.Proofs.Try.f12 0 12 ⟨[(2, .one (.c (.d (.int .u8 e.1)))), (3, .one (.c (.ptr 0 0)))], [], [(0, [.d (.int .u64 e.2.1), .d (.int .u64 e.2.2)])], 1⟩ o
theorem f12_broughamlaw09_KeysDraws_L6_ok (n : Nat) : ∀ (id : Int) (from_ : Int) (many : Int) (i : Int) (seed_0 : Int) (seed_1 : Int) (s_0 : Int) (s_1 : Int) (s_2 : Int) (w : (Bool) ⊕ (Int × Int × Int)) (h : f12_broughamlaw09_KeysDraws_L6 n id from_ many i seed_0 seed_1 s_0 s_1 s_2 = some w) (o : Out) (hk : f12_broughamlaw09_KeysDraws_L6_k w o), At Go.Proofs.Try.prog Go.Proofs.Try.f12 0 6 ⟨[(2, .one (.c (.d (.int .u8 id)))), (3, .one (.c (.ptr 0 0))), (7, .one (.c (.d (.int .u64 from_)))), (8, .one (.c (.d (.int .i64 many)))), (9, .one (.c (.ptr 1 0))), (10, .one (.c (.d (.int .i64 i))))], [], [(0, [.d (.int .u64 seed_0), .d (.int .u64 seed_1)]), (1, [.d (.int .u64 s_0), .d (.int .u64 s_1), .d (.int .u64 s_2)])], 2⟩ o := by
  induction n with
  | zero => intro id from_ many i seed_0 seed_1 s_0 s_1 s_2 w h; rw [f12_broughamlaw09_KeysDraws_L6] at h; cases h
  | succ n ih =>
    intro id from_ many i seed_0 seed_1 s_0 s_1 s_2 w h o hk
    rw [f12_broughamlaw09_KeysDraws_L6] at h
    rcases iteS h with ⟨b88_e0, h⟩ | ⟨b88_e0, h⟩
    · refine At.step hm ht ⟨[], [true], [], [2, 3, 7, 8, 9, 10], [0, 1]⟩ 8 ⟨[(2, .one (.c (.d (.int .u8 id)))), (3, .one (.c (.ptr 0 0))), (7, .one (.c (.d (.int .u64 from_)))), (8, .one (.c (.d (.int .i64 many)))), (9, .one (.c (.ptr 1 0))), (10, .one (.c (.d (.int .i64 i))))], [], [(0, [.d (.int .u64 seed_0), .d (.int .u64 seed_1)]), (1, [.d (.int .u64 s_0), .d (.int .u64 s_1), .d (.int .u64 s_2)])], 2⟩ [(decide ((i : Int) < many)) = true] (by kernel_rfl) ⟨b88_e0, trivial⟩ ?_
      refine At.step hm ht ⟨[], [], [], [2, 3, 7, 8, 9, 10, 11], [0, 1]⟩ 9 ⟨[(2, .one (.c (.d (.int .u8 id)))), (3, .one (.c (.ptr 0 0))), (7, .one (.c (.d (.int .u64 from_)))), (8, .one (.c (.d (.int .i64 many)))), (9, .one (.c (.ptr 1 0))), (10, .one (.c (.d (.int .i64 i)))), (11, .one (.c (.d (.int .u64 (IntKind.wrap .u64 (from_ + (IntKind.wrap .u64 i)))))))], [], [(0, [.d (.int .u64 seed_0), .d (.int .u64 seed_1)]), (1, [.d (.int .u64 s_0), .d (.int .u64 s_1), .d (.int .u64 s_2)])], 2⟩ [] (by kernel_rfl) trivial ?_
      obtain ⟨r90_0, cr90_0, h⟩ := bindS h
      refine At.step hm ht ⟨[(2, .call [] [] (f50_broughamref09_Drawn_out r90_0))], [], [], [2, 3, 7, 8, 9, 10, 11, 12], [0, 1]⟩ 10 ⟨[(2, .one (.c (.d (.int .u8 id)))), (3, .one (.c (.ptr 0 0))), (7, .one (.c (.d (.int .u64 from_)))), (8, .one (.c (.d (.int .i64 many)))), (9, .one (.c (.ptr 1 0))), (10, .one (.c (.d (.int .i64 i)))), (11, .one (.c (.d (.int .u64 (IntKind.wrap .u64 (from_ + (IntKind.wrap .u64 i))))))), (12, .one (.c (.d (.int .u64 r90_0))))], [], [(0, [.d (.int .u64 seed_0), .d (.int .u64 seed_1)]), (1, [.d (.int .u64 s_0), .d (.int .u64 s_1), .d (.int .u64 s_2)])], 2⟩ [FnOK Go.Proofs.Try.prog 50 (f50_broughamref09_Drawn_in seed_0 seed_1 (IntKind.wrap .u64 (from_ + (IntKind.wrap .u64 i)))) (f50_broughamref09_Drawn_out r90_0)] (by kernel_rfl) ⟨(f50_broughamref09_Drawn_ok n seed_0 seed_1 (IntKind.wrap .u64 (from_ + (IntKind.wrap .u64 i))) r90_0 cr90_0), trivial⟩ ?_
      obtain ⟨r161_0, cr161_0, h⟩ := bindS h
      rcases iteS h with ⟨b161_5, h⟩ | ⟨b161_5, h⟩
      · refine At.step hm ht ⟨[(2, .call [] [] (f51_keys_Drawn_out r161_0)), (5, .b true)], [true], [], [], []⟩ 11 ⟨[], [], [], 0⟩ [FnOK Go.Proofs.Try.prog 51 (f51_keys_Drawn_in seed_0 seed_1 (IntKind.wrap .u64 (from_ + (IntKind.wrap .u64 i)))) (f51_keys_Drawn_out r161_0), ((r161_0 : Int) != r90_0) = true, true = true] (by kernel_rfl) ⟨(f51_keys_Drawn_ok n seed_0 seed_1 (IntKind.wrap .u64 (from_ + (IntKind.wrap .u64 i))) r161_0 cr161_0), b161_5, rfl, trivial⟩ ?_
        have h := Option.some.inj h
        subst h
        have hk : o = f12_broughamlaw09_KeysDraws_out false := hk
        subst hk
        exact At.fin hm ht ⟨[], [], [], [6], []⟩ [] (by kernel_rfl) trivial
      · obtain ⟨r161_1, cr161_1, h⟩ := bindS h
        rcases iteS h with ⟨b161_10, h⟩ | ⟨b161_10, h⟩
        · refine At.step hm ht ⟨[(2, .call [] [] (f51_keys_Drawn_out r161_0)), (5, .b false), (6, .call [1] [] (f52_keys_Source_Draw_out r161_1)), (10, .b true)], [true], [], [], []⟩ 11 ⟨[], [], [], 0⟩ [FnOK Go.Proofs.Try.prog 51 (f51_keys_Drawn_in seed_0 seed_1 (IntKind.wrap .u64 (from_ + (IntKind.wrap .u64 i)))) (f51_keys_Drawn_out r161_0), ((r161_0 : Int) != r90_0) = false, FnOK Go.Proofs.Try.prog 52 (f52_keys_Source_Draw_in s_0 s_1 s_2) (f52_keys_Source_Draw_out r161_1), ((r161_1.1 : Int) != r90_0) = true, true = true] (by kernel_rfl) ⟨(f51_keys_Drawn_ok n seed_0 seed_1 (IntKind.wrap .u64 (from_ + (IntKind.wrap .u64 i))) r161_0 cr161_0), b161_5, (f52_keys_Source_Draw_ok n s_0 s_1 s_2 r161_1 cr161_1), b161_10, rfl, trivial⟩ ?_
          have h := Option.some.inj h
          subst h
          have hk : o = f12_broughamlaw09_KeysDraws_out false := hk
          subst hk
          exact At.fin hm ht ⟨[], [], [], [6], []⟩ [] (by kernel_rfl) trivial
        · rcases iteS h with ⟨b161_e0, h⟩ | ⟨b161_e0, h⟩
          · refine At.step hm ht ⟨[(2, .call [] [] (f51_keys_Drawn_out r161_0)), (5, .b false), (6, .call [1] [] (f52_keys_Source_Draw_out r161_1)), (10, .b false)], [true], [], [], []⟩ 11 ⟨[], [], [], 0⟩ [FnOK Go.Proofs.Try.prog 51 (f51_keys_Drawn_in seed_0 seed_1 (IntKind.wrap .u64 (from_ + (IntKind.wrap .u64 i)))) (f51_keys_Drawn_out r161_0), ((r161_0 : Int) != r90_0) = false, FnOK Go.Proofs.Try.prog 52 (f52_keys_Source_Draw_in s_0 s_1 s_2) (f52_keys_Source_Draw_out r161_1), ((r161_1.1 : Int) != r90_0) = false, ((r161_1.2.2.2 : Int) != (IntKind.wrap .u64 ((IntKind.wrap .u64 (from_ + (IntKind.wrap .u64 i))) + 1))) = true] (by kernel_rfl) ⟨(f51_keys_Drawn_ok n seed_0 seed_1 (IntKind.wrap .u64 (from_ + (IntKind.wrap .u64 i))) r161_0 cr161_0), b161_5, (f52_keys_Source_Draw_ok n s_0 s_1 s_2 r161_1 cr161_1), b161_10, b161_e0, trivial⟩ ?_
            have h := Option.some.inj h
            subst h
            have hk : o = f12_broughamlaw09_KeysDraws_out false := hk
            subst hk
            exact At.fin hm ht ⟨[], [], [], [6], []⟩ [] (by kernel_rfl) trivial
          · refine At.step hm ht ⟨[(2, .call [] [] (f51_keys_Drawn_out r161_0)), (5, .b false), (6, .call [1] [] (f52_keys_Source_Draw_out r161_1)), (10, .b false)], [false], [], [2, 3, 7, 8, 9, 10], [0, 1]⟩ 7 ⟨[(2, .one (.c (.d (.int .u8 id)))), (3, .one (.c (.ptr 0 0))), (7, .one (.c (.d (.int .u64 from_)))), (8, .one (.c (.d (.int .i64 many)))), (9, .one (.c (.ptr 1 0))), (10, .one (.c (.d (.int .i64 i))))], [], [(0, [.d (.int .u64 seed_0), .d (.int .u64 seed_1)]), (1, [.d (.int .u64 r161_1.2.1), .d (.int .u64 r161_1.2.2.1), .d (.int .u64 r161_1.2.2.2)])], 2⟩ [FnOK Go.Proofs.Try.prog 51 (f51_keys_Drawn_in seed_0 seed_1 (IntKind.wrap .u64 (from_ + (IntKind.wrap .u64 i)))) (f51_keys_Drawn_out r161_0), ((r161_0 : Int) != r90_0) = false, FnOK Go.Proofs.Try.prog 52 (f52_keys_Source_Draw_in s_0 s_1 s_2) (f52_keys_Source_Draw_out r161_1), ((r161_1.1 : Int) != r90_0) = false, ((r161_1.2.2.2 : Int) != (IntKind.wrap .u64 ((IntKind.wrap .u64 (from_ + (IntKind.wrap .u64 i))) + 1))) = false] (by kernel_rfl) ⟨(f51_keys_Drawn_ok n seed_0 seed_1 (IntKind.wrap .u64 (from_ + (IntKind.wrap .u64 i))) r161_0 cr161_0), b161_5, (f52_keys_Source_Draw_ok n s_0 s_1 s_2 r161_1 cr161_1), b161_10, b161_e0, trivial⟩ ?_
            refine At.step hm ht ⟨[], [], [], [2, 3, 7, 8, 9, 10], [0, 1]⟩ 6 ⟨[(2, .one (.c (.d (.int .u8 id)))), (3, .one (.c (.ptr 0 0))), (7, .one (.c (.d (.int .u64 from_)))), (8, .one (.c (.d (.int .i64 many)))), (9, .one (.c (.ptr 1 0))), (10, .one (.c (.d (.int .i64 (IntKind.wrap .i64 (i + 1))))))], [], [(0, [.d (.int .u64 seed_0), .d (.int .u64 seed_1)]), (1, [.d (.int .u64 r161_1.2.1), .d (.int .u64 r161_1.2.2.1), .d (.int .u64 r161_1.2.2.2)])], 2⟩ [] (by kernel_rfl) trivial ?_
            exact ih id from_ many (IntKind.wrap .i64 (i + 1)) seed_0 seed_1 r161_1.2.1 r161_1.2.2.1 r161_1.2.2.2 w h o hk
    · refine At.step hm ht ⟨[], [false], [], [2, 3], [0]⟩ 12 ⟨[(2, .one (.c (.d (.int .u8 id)))), (3, .one (.c (.ptr 0 0)))], [], [(0, [.d (.int .u64 seed_0), .d (.int .u64 seed_1)])], 1⟩ [(decide ((i : Int) < many)) = false] (by kernel_rfl) ⟨b88_e0, trivial⟩ ?_
      have h := Option.some.inj h
      subst h
      exact hk
def f12_broughamlaw09_KeysDraws (n : Nat) (seed_0 : Int) (seed_1 : Int) (x_0 : Int) (x_1 : Int) (id : Int) : Option (Bool) :=
  if (decide ((x_1 : Int) < 0)) = true then
    some true
  else
    if (decide ((x_1 : Int) > 100)) = true then
      some true
    else
      (f12_broughamlaw09_KeysDraws_L6 n id x_0 x_1 0 seed_0 seed_1 seed_0 seed_1 x_0).bind fun w191 =>
      match w191 with
      | .inl e192 =>
        some e192
      | .inr e193 =>
        (f53_keys_Flow n e193.2.1 e193.2.2 e193.1).bind fun r194_0 =>
        (f54_broughamref09_Flow n e193.2.1 e193.2.2 e193.1).bind fun r194_1 =>
        if (((r194_0.1 : Int) == r194_1.1) && ((r194_0.2 : Int) == r194_1.2)) = true then
          (f43_broughamlaw09_alive n).bind fun r194_2 =>
          some r194_2
        else
          some false
theorem f12_broughamlaw09_KeysDraws_ok (n : Nat) (seed_0 : Int) (seed_1 : Int) (x_0 : Int) (x_1 : Int) (id : Int) (r : Bool) (h : f12_broughamlaw09_KeysDraws n seed_0 seed_1 x_0 x_1 id = some r) : FnOK Go.Proofs.Try.prog 12 (f12_broughamlaw09_KeysDraws_in seed_0 seed_1 x_0 x_1 id) (f12_broughamlaw09_KeysDraws_out r) := by
  unfold f12_broughamlaw09_KeysDraws at h
  refine At.fn (r := 0) Go.Proofs.Try.func12 rfl (by kernel_rfl) rfl rfl (by kernel_rfl) ?_
  show At Go.Proofs.Try.prog Go.Proofs.Try.f12 0 0 ⟨[(0, .one (.agg [.d (.int .u64 seed_0), .d (.int .u64 seed_1)])), (1, .one (.agg [.d (.int .u64 x_0), .d (.int .i64 x_1)])), (2, .one (.c (.d (.int .u8 id))))], [], [], 0⟩ _
  refine At.step hm ht ⟨[], [], [], [2, 3, 4], [0, 1]⟩ 1 ⟨[(2, .one (.c (.d (.int .u8 id)))), (3, .one (.c (.ptr 0 0))), (4, .one (.c (.ptr 1 0)))], [], [(0, [.d (.int .u64 seed_0), .d (.int .u64 seed_1)]), (1, [.d (.int .u64 x_0), .d (.int .i64 x_1)])], 2⟩ [] (by kernel_rfl) trivial ?_
  refine At.step hm ht ⟨[], [], [], [2, 3, 7, 8], [0]⟩ 2 ⟨[(2, .one (.c (.d (.int .u8 id)))), (3, .one (.c (.ptr 0 0))), (7, .one (.c (.d (.int .u64 x_0)))), (8, .one (.c (.d (.int .i64 x_1))))], [], [(0, [.d (.int .u64 seed_0), .d (.int .u64 seed_1)])], 1⟩ [] (by kernel_rfl) trivial ?_
  rcases iteS h with ⟨b83_2, h⟩ | ⟨b83_2, h⟩
  · refine At.step hm ht ⟨[(2, .b true)], [true], [], [], []⟩ 3 ⟨[], [], [], 0⟩ [(decide ((x_1 : Int) < 0)) = true, true = true] (by kernel_rfl) ⟨b83_2, rfl, trivial⟩ ?_
    have h := Option.some.inj h
    subst h
    exact At.fin hm ht ⟨[], [], [], [6], []⟩ [] (by kernel_rfl) trivial
  · rcases iteS h with ⟨b83_e0, h⟩ | ⟨b83_e0, h⟩
    · refine At.step hm ht ⟨[(2, .b false)], [true], [], [], []⟩ 3 ⟨[], [], [], 0⟩ [(decide ((x_1 : Int) < 0)) = false, (decide ((x_1 : Int) > 100)) = true] (by kernel_rfl) ⟨b83_2, b83_e0, trivial⟩ ?_
      have h := Option.some.inj h
      subst h
      exact At.fin hm ht ⟨[], [], [], [6], []⟩ [] (by kernel_rfl) trivial
    · refine At.step hm ht ⟨[(2, .b false)], [false], [], [2, 3, 7, 8], [0]⟩ 4 ⟨[(2, .one (.c (.d (.int .u8 id)))), (3, .one (.c (.ptr 0 0))), (7, .one (.c (.d (.int .u64 x_0)))), (8, .one (.c (.d (.int .i64 x_1))))], [], [(0, [.d (.int .u64 seed_0), .d (.int .u64 seed_1)])], 1⟩ [(decide ((x_1 : Int) < 0)) = false, (decide ((x_1 : Int) > 100)) = false] (by kernel_rfl) ⟨b83_2, b83_e0, trivial⟩ ?_
      refine At.step hm ht ⟨[], [], [], [2, 3, 7, 8, 9], [0, 4]⟩ 5 ⟨[(2, .one (.c (.d (.int .u8 id)))), (3, .one (.c (.ptr 0 0))), (7, .one (.c (.d (.int .u64 x_0)))), (8, .one (.c (.d (.int .i64 x_1)))), (9, .one (.c (.ptr 1 0)))], [], [(0, [.d (.int .u64 seed_0), .d (.int .u64 seed_1)]), (1, [.d (.int .u64 seed_0), .d (.int .u64 seed_1), .d (.int .u64 x_0)])], 2⟩ [0 + 3 ≤ 3] (by kernel_rfl) ⟨(by decide), trivial⟩ ?_
      refine At.step hm ht ⟨[], [], [], [2, 3, 7, 8, 9, 10], [0, 1]⟩ 6 ⟨[(2, .one (.c (.d (.int .u8 id)))), (3, .one (.c (.ptr 0 0))), (7, .one (.c (.d (.int .u64 x_0)))), (8, .one (.c (.d (.int .i64 x_1)))), (9, .one (.c (.ptr 1 0))), (10, .one (.c (.d (.int .i64 0))))], [], [(0, [.d (.int .u64 seed_0), .d (.int .u64 seed_1)]), (1, [.d (.int .u64 seed_0), .d (.int .u64 seed_1), .d (.int .u64 x_0)])], 2⟩ [] (by kernel_rfl) trivial ?_
      obtain ⟨w191, cw191, h⟩ := bindS h
      refine f12_broughamlaw09_KeysDraws_L6_ok n id x_0 x_1 0 seed_0 seed_1 seed_0 seed_1 x_0 w191 cw191 _ ?_
      rcases w191 with e192 | e193
      · have h := Option.some.inj h
        subst h
        rfl
      · show At Go.Proofs.Try.prog Go.Proofs.Try.f12 0 12 ⟨[(2, .one (.c (.d (.int .u8 e193.1)))), (3, .one (.c (.ptr 0 0)))], [], [(0, [.d (.int .u64 e193.2.1), .d (.int .u64 e193.2.2)])], 1⟩ _
        obtain ⟨r194_0, cr194_0, h⟩ := bindS h
        obtain ⟨r194_1, cr194_1, h⟩ := bindS h
        rcases iteS h with ⟨b194_7, h⟩ | ⟨b194_7, h⟩
        · obtain ⟨r194_2, cr194_2, h⟩ := bindS h
          have h := Option.some.inj h
          subst h
          exact At.fin hm ht ⟨[(2, .call [] [] (f53_keys_Flow_out r194_0)), (5, .call [] [] (f54_broughamref09_Flow_out r194_1)), (7, .b true), (8, .call [] [] (f43_broughamlaw09_alive_out r194_2))], [], [], [6], []⟩ [FnOK Go.Proofs.Try.prog 53 (f53_keys_Flow_in e193.2.1 e193.2.2 e193.1) (f53_keys_Flow_out r194_0), FnOK Go.Proofs.Try.prog 54 (f54_broughamref09_Flow_in e193.2.1 e193.2.2 e193.1) (f54_broughamref09_Flow_out r194_1), (((r194_0.1 : Int) == r194_1.1) && ((r194_0.2 : Int) == r194_1.2)) = true, FnOK Go.Proofs.Try.prog 43 (f43_broughamlaw09_alive_in) (f43_broughamlaw09_alive_out r194_2)] (by kernel_rfl) ⟨(f53_keys_Flow_ok n e193.2.1 e193.2.2 e193.1 r194_0 cr194_0), (f54_broughamref09_Flow_ok n e193.2.1 e193.2.2 e193.1 r194_1 cr194_1), b194_7, (f43_broughamlaw09_alive_ok n r194_2 cr194_2), trivial⟩
        · have h := Option.some.inj h
          subst h
          exact At.fin hm ht ⟨[(2, .call [] [] (f53_keys_Flow_out r194_0)), (5, .call [] [] (f54_broughamref09_Flow_out r194_1)), (7, .b false)], [], [], [6], []⟩ [FnOK Go.Proofs.Try.prog 53 (f53_keys_Flow_in e193.2.1 e193.2.2 e193.1) (f53_keys_Flow_out r194_0), FnOK Go.Proofs.Try.prog 54 (f54_broughamref09_Flow_in e193.2.1 e193.2.2 e193.1) (f54_broughamref09_Flow_out r194_1), (((r194_0.1 : Int) == r194_1.1) && ((r194_0.2 : Int) == r194_1.2)) = false] (by kernel_rfl) ⟨(f53_keys_Flow_ok n e193.2.1 e193.2.2 e193.1 r194_0 cr194_0), (f54_broughamref09_Flow_ok n e193.2.1 e193.2.2 e193.1 r194_1 cr194_1), b194_7, trivial⟩
/-! brougham/broughamref09.Made -/
def f45_broughamref09_Made_in (client : Int) (server : Int) (text : ByteArray) : Inn := ⟨[.c (.d (.int .u64 client)), .c (.d (.int .u64 server)), .c (.d (.str text))], [], [], 0⟩
def f45_broughamref09_Made_out (r : Int × Int) : Out := ⟨.one (.agg [.d (.int .u64 r.1), .d (.int .u64 r.2)]), [], [(0, [.d (.int .u64 r.1), .d (.int .u64 r.2)])], 1⟩
def f45_broughamref09_Made (n : Nat) (client : Int) (server : Int) (text : ByteArray) : Option (Int × Int) :=
  (f81_broughamref03_Pair n client server (bytesOf text)).bind fun r205_0 =>
  some (r205_0.1, r205_0.2)
theorem f45_broughamref09_Made_ok (n : Nat) (client : Int) (server : Int) (text : ByteArray) (r : Int × Int) (h : f45_broughamref09_Made n client server text = some r) : FnOK Go.Proofs.Try.prog 45 (f45_broughamref09_Made_in client server text) (f45_broughamref09_Made_out r) := by
  unfold f45_broughamref09_Made at h
  refine At.fn (r := 0) Go.Proofs.Try.func45 rfl (by kernel_rfl) rfl rfl (by kernel_rfl) ?_
  show At Go.Proofs.Try.prog Go.Proofs.Try.f45 0 0 ⟨[(0, .one (.c (.d (.int .u64 client)))), (1, .one (.c (.d (.int .u64 server)))), (2, .one (.c (.d (.str text))))], [], [], 0⟩ _
  refine At.step hm ht ⟨[], [], [], [0, 1, 2, 6], [0]⟩ 1 ⟨[(0, .one (.c (.d (.int .u64 client)))), (1, .one (.c (.d (.int .u64 server)))), (2, .one (.c (.d (.str text)))), (6, .one (.c (.ptr 0 0)))], [], [(0, [.d (.int .u64 0), .d (.int .u64 0)])], 1⟩ [] (by kernel_rfl) trivial ?_
  obtain ⟨r205_0, cr205_0, h⟩ := bindS h
  have h := Option.some.inj h
  subst h
  exact At.fin hm ht ⟨[(5, .call [] [] (f81_broughamref03_Pair_out r205_0))], [], [], [6], [0]⟩ [FnOK Go.Proofs.Try.prog 81 (f81_broughamref03_Pair_in client server (bytesOf text)) (f81_broughamref03_Pair_out r205_0), 0 + 2 ≤ 2] (by kernel_rfl) ⟨(f81_broughamref03_Pair_ok n client server (bytesOf text) r205_0 cr205_0), (by decide), trivial⟩
/-! brougham/broughamref09.Token -/
def f46_broughamref09_Token_in (client : Int) (server : Int) : Inn := ⟨[.c (.d (.int .u64 client)), .c (.d (.int .u64 server))], [], [], 0⟩
def f46_broughamref09_Token_out (r : Int) : Out := ⟨.one (.c (.d (.int .u32 r))), [], [], 0⟩
def f46_broughamref09_Token (n : Nat) (client : Int) (server : Int) : Option (Int) :=
  (f82_broughamref03_Sum n client server [116, 111, 107, 101, 110]).bind fun r208_0 =>
  some (IntKind.wrap .u32 (Int.tmod r208_0 4294967296))
theorem f46_broughamref09_Token_ok (n : Nat) (client : Int) (server : Int) (r : Int) (h : f46_broughamref09_Token n client server = some r) : FnOK Go.Proofs.Try.prog 46 (f46_broughamref09_Token_in client server) (f46_broughamref09_Token_out r) := by
  unfold f46_broughamref09_Token at h
  refine At.fn (r := 0) Go.Proofs.Try.func46 rfl (by kernel_rfl) rfl rfl (by kernel_rfl) ?_
  show At Go.Proofs.Try.prog Go.Proofs.Try.f46 0 0 ⟨[(0, .one (.c (.d (.int .u64 client)))), (1, .one (.c (.d (.int .u64 server))))], [], [], 0⟩ _
  refine At.step hm ht ⟨[], [], [], [0, 1], []⟩ 1 ⟨[(0, .one (.c (.d (.int .u64 client)))), (1, .one (.c (.d (.int .u64 server))))], [], [], 0⟩ [] (by kernel_rfl) trivial ?_
  obtain ⟨r208_0, cr208_0, h⟩ := bindS h
  have h := Option.some.inj h
  subst h
  exact At.fin hm ht ⟨[(5, .call [] [] (f82_broughamref03_Sum_out r208_0))], [], [], [4], []⟩ [FnOK Go.Proofs.Try.prog 82 (f82_broughamref03_Sum_in client server [116, 111, 107, 101, 110]) (f82_broughamref03_Sum_out r208_0), (4294967296 : Int) ≠ 0] (by kernel_rfl) ⟨(f82_broughamref03_Sum_ok n client server [116, 111, 107, 101, 110] r208_0 cr208_0), (by decide), trivial⟩
/-! brougham/keys.Handshake -/
def f47_keys_Handshake_in (client : Int) (server : Int) : Inn := ⟨[.c (.d (.int .u64 client)), .c (.d (.int .u64 server))], [], [], 0⟩
def f47_keys_Handshake_out (r : Int × Int) : Out := ⟨.one (.agg [.d (.int .u64 r.1), .d (.int .u64 r.2)]), [], [(0, [.d (.int .u64 r.1), .d (.int .u64 r.2)])], 1⟩
def f47_keys_Handshake (n : Nat) (client : Int) (server : Int) : Option (Int × Int) :=
  (f79_sip_Pair n client server [[97, 110, 115, 119, 101, 114]]).bind fun r210_0 =>
  some (r210_0.1, r210_0.2)
theorem f47_keys_Handshake_ok (n : Nat) (client : Int) (server : Int) (r : Int × Int) (h : f47_keys_Handshake n client server = some r) : FnOK Go.Proofs.Try.prog 47 (f47_keys_Handshake_in client server) (f47_keys_Handshake_out r) := by
  unfold f47_keys_Handshake at h
  refine At.fn (r := 0) Go.Proofs.Try.func47 rfl (by kernel_rfl) rfl rfl (by kernel_rfl) ?_
  show At Go.Proofs.Try.prog Go.Proofs.Try.f47 0 0 ⟨[(0, .one (.c (.d (.int .u64 client)))), (1, .one (.c (.d (.int .u64 server))))], [], [], 0⟩ _
  refine At.step hm ht ⟨[], [], [], [0, 1, 4], [0]⟩ 1 ⟨[(0, .one (.c (.d (.int .u64 client)))), (1, .one (.c (.d (.int .u64 server)))), (4, .one (.c (.ptr 0 0)))], [], [(0, [.d (.int .u64 0), .d (.int .u64 0)])], 1⟩ [] (by kernel_rfl) trivial ?_
  obtain ⟨r210_0, cr210_0, h⟩ := bindS h
  have h := Option.some.inj h
  subst h
  exact At.fin hm ht ⟨[(6, .call [] [] (f79_sip_Pair_out r210_0))], [], [], [4], [0]⟩ [FnOK Go.Proofs.Try.prog 79 (f79_sip_Pair_in client server [[97, 110, 115, 119, 101, 114]]) (f79_sip_Pair_out r210_0), 0 + 2 ≤ 2] (by kernel_rfl) ⟨(f79_sip_Pair_ok n client server [[97, 110, 115, 119, 101, 114]] r210_0 cr210_0), (by decide), trivial⟩
/-! brougham/pack.W -/
def f84_pack_W_in (n_ : Int) : Inn := ⟨[.c (.d (.int .u32 n_))], [], [], 0⟩
def f84_pack_W_out (r : Int × Int) : Out := ⟨.one (.agg [.d (.int .i64 r.1), .d (.int .u64 r.2)]), [], [(0, [.d (.int .i64 r.1), .d (.int .u64 r.2)])], 1⟩
def f84_pack_W (n_ : Int) : Option (Int × Int) :=
  some (4, (IntKind.wrap .u64 n_))
theorem f84_pack_W_ok (n_ : Int) (r : Int × Int) (h : f84_pack_W n_ = some r) : FnOK Go.Proofs.Try.prog 84 (f84_pack_W_in n_) (f84_pack_W_out r) := by
  unfold f84_pack_W at h
  refine At.fn (r := 0) Go.Proofs.Try.func84 rfl (by kernel_rfl) rfl rfl (by kernel_rfl) ?_
  show At Go.Proofs.Try.prog Go.Proofs.Try.f84 0 0 ⟨[(0, .one (.c (.d (.int .u32 n_))))], [], [], 0⟩ _
  refine At.step hm ht ⟨[], [], [], [0, 2], [0]⟩ 1 ⟨[(0, .one (.c (.d (.int .u32 n_)))), (2, .one (.c (.ptr 0 0)))], [], [(0, [.d (.int .i64 0), .d (.int .u64 0)])], 1⟩ [] (by kernel_rfl) trivial ?_
  have h := Option.some.inj h
  subst h
  exact At.fin hm ht ⟨[], [], [], [2], [0]⟩ [0 + 2 ≤ 2] (by kernel_rfl) ⟨(by decide), trivial⟩
/-! brougham/keys.Path -/
def f48_keys_Path_in (k_0 : Int) (k_1 : Int) (k_2 : Int) (k_3 : Int) (k_4 : Int) (k_5 : Int) (k_6 : Int) (k_7 : Int) (k_8 : Int) (client : Int) (server : Int) : Inn := ⟨[.agg [.d (.int .u64 k_0), .d (.int .u64 k_1), .d (.int .u64 k_2), .d (.int .u64 k_3), .d (.int .u64 k_4), .d (.int .u64 k_5), .d (.int .u64 k_6), .d (.int .u64 k_7), .d (.int .u32 k_8)], .c (.d (.int .u32 client)), .c (.d (.int .u32 server))], [], [], 0⟩
def f48_keys_Path_out (r : Int × Int) : Out := ⟨.one (.agg [.d (.int .u64 r.1), .d (.int .u64 r.2)]), [], [(0, [.d (.int .u64 r.1), .d (.int .u64 r.2)])], 1⟩
def f48_keys_Path (n : Nat) (k_0 : Int) (k_1 : Int) (k_2 : Int) (k_3 : Int) (k_4 : Int) (k_5 : Int) (k_6 : Int) (k_7 : Int) (k_8 : Int) (client : Int) (server : Int) : Option (Int × Int) :=
  (f84_pack_W client).bind fun r212_0 =>
  (f84_pack_W server).bind fun r212_1 =>
  (f83_pack_Put n [] [r212_0, r212_1]).bind fun r212_2 =>
  (f79_sip_Pair n k_6 k_7 [r212_2]).bind fun r212_3 =>
  some (r212_3.1, r212_3.2)
theorem f48_keys_Path_ok (n : Nat) (k_0 : Int) (k_1 : Int) (k_2 : Int) (k_3 : Int) (k_4 : Int) (k_5 : Int) (k_6 : Int) (k_7 : Int) (k_8 : Int) (client : Int) (server : Int) (r : Int × Int) (h : f48_keys_Path n k_0 k_1 k_2 k_3 k_4 k_5 k_6 k_7 k_8 client server = some r) : FnOK Go.Proofs.Try.prog 48 (f48_keys_Path_in k_0 k_1 k_2 k_3 k_4 k_5 k_6 k_7 k_8 client server) (f48_keys_Path_out r) := by
  unfold f48_keys_Path at h
  refine At.fn (r := 0) Go.Proofs.Try.func48 rfl (by kernel_rfl) rfl rfl (by kernel_rfl) ?_
  show At Go.Proofs.Try.prog Go.Proofs.Try.f48 0 0 ⟨[(0, .one (.agg [.d (.int .u64 k_0), .d (.int .u64 k_1), .d (.int .u64 k_2), .d (.int .u64 k_3), .d (.int .u64 k_4), .d (.int .u64 k_5), .d (.int .u64 k_6), .d (.int .u64 k_7), .d (.int .u32 k_8)])), (1, .one (.c (.d (.int .u32 client)))), (2, .one (.c (.d (.int .u32 server))))], [], [], 0⟩ _
  refine At.step hm ht ⟨[], [], [], [1, 2, 3, 6], [0, 1]⟩ 1 ⟨[(1, .one (.c (.d (.int .u32 client)))), (2, .one (.c (.d (.int .u32 server)))), (3, .one (.c (.ptr 0 0))), (6, .one (.c (.ptr 1 0)))], [], [(0, [.d (.int .u64 k_0), .d (.int .u64 k_1), .d (.int .u64 k_2), .d (.int .u64 k_3), .d (.int .u64 k_4), .d (.int .u64 k_5), .d (.int .u64 k_6), .d (.int .u64 k_7), .d (.int .u32 k_8)]), (1, [.d (.int .u64 0), .d (.int .u64 0)])], 2⟩ [] (by kernel_rfl) trivial ?_
  obtain ⟨r212_0, cr212_0, h⟩ := bindS h
  obtain ⟨r212_1, cr212_1, h⟩ := bindS h
  obtain ⟨r212_2, cr212_2, h⟩ := bindS h
  obtain ⟨r212_3, cr212_3, h⟩ := bindS h
  have h := Option.some.inj h
  subst h
  exact At.fin hm ht ⟨[(3, .call [] [] (f84_pack_W_out r212_0)), (5, .call [] [] (f84_pack_W_out r212_1)), (7, .call [] [(0, 0, (.int .u8))] (f83_pack_Put_out r212_2)), (9, .call [] [] (f79_sip_Pair_out r212_3))], [], [], [6], [1]⟩ [FnOK Go.Proofs.Try.prog 84 (f84_pack_W_in client) (f84_pack_W_out r212_0), FnOK Go.Proofs.Try.prog 84 (f84_pack_W_in server) (f84_pack_W_out r212_1), FnOK Go.Proofs.Try.prog 83 (f83_pack_Put_in [] [r212_0, r212_1]) (f83_pack_Put_out r212_2), FnOK Go.Proofs.Try.prog 79 (f79_sip_Pair_in k_6 k_7 [r212_2]) (f79_sip_Pair_out r212_3), 0 + 2 ≤ 2] (by kernel_rfl) ⟨(f84_pack_W_ok client r212_0 cr212_0), (f84_pack_W_ok server r212_1 cr212_1), (f83_pack_Put_ok n [] [r212_0, r212_1] r212_2 cr212_2), (f79_sip_Pair_ok n k_6 k_7 [r212_2] r212_3 cr212_3), (by decide), trivial⟩
/-! brougham/broughamref02.Put -/
def f85_broughamref02_Put_v2_in (b : List Int) (n_ : Int) (bytes : Int) : Inn := ⟨[.c (.own 0 (.int .u8) b), .c (.d (.int .u64 n_)), .c (.d (.int .i64 bytes))], [(0, ⟨5, 0⟩)], [], 1⟩
def f85_broughamref02_Put_v2_out (r : List Int) : Out := ⟨.one (.c (.own 1 (.int .u8) r)), [(1, ⟨5, 0⟩)], [], 2⟩
def f85_broughamref02_Put_v2 : Nat → (List Int) → Int → Int → Option (List Int)
  | 0, _, _, _ => none
  | n + 1, b, n_, bytes =>
    if (decide ((bytes : Int) < 1)) = true then
      some b
    else
      if (decide ((bytes : Int) > 8)) = true then
        some b
      else
        (f85_broughamref02_Put_v2 n b (IntKind.wrap .u64 (Int.tdiv n_ 256)) (IntKind.wrap .i64 (bytes - 1))).bind fun r227_0 =>
        if r227_0.length + [(IntKind.wrap .u8 (Int.tmod n_ 256))].length ≤ maxLen ∧ (r227_0.length + [(IntKind.wrap .u8 (Int.tmod n_ 256))].length) * 1 ≤ 140737488355328 then
        some (r227_0 ++ [(IntKind.wrap .u8 (Int.tmod n_ 256))])
        else none
theorem f85_broughamref02_Put_v2_ok (n : Nat) : ∀ (b : List Int) (n_ : Int) (bytes : Int) (r : List Int) (h : f85_broughamref02_Put_v2 n b n_ bytes = some r), FnOK Go.Proofs.Try.prog 85 (f85_broughamref02_Put_v2_in b n_ bytes) (f85_broughamref02_Put_v2_out r) := by
  induction n with
  | zero => intro b n_ bytes r h; rw [f85_broughamref02_Put_v2] at h; cases h
  | succ n ih =>
    intro b n_ bytes r h
    rw [f85_broughamref02_Put_v2] at h
    refine At.fn (r := 0) Go.Proofs.Try.func85 rfl (by kernel_rfl) rfl rfl (by kernel_rfl) ?_
    show At Go.Proofs.Try.prog Go.Proofs.Try.f85 1 0 ⟨[(0, .one (.c (.own 0 (.int .u8) b))), (1, .one (.c (.d (.int .u64 n_)))), (2, .one (.c (.d (.int .i64 bytes))))], [(0, some ⟨5, 0⟩)], [], 1⟩ _
    refine At.step hm ht ⟨[], [], [], [0, 1, 2], [0]⟩ 1 ⟨[(0, .one (.c (.own 0 (.int .u8) b))), (1, .one (.c (.d (.int .u64 n_)))), (2, .one (.c (.d (.int .i64 bytes))))], [(0, some ⟨5, 0⟩)], [], 1⟩ [] (by kernel_rfl) trivial ?_
    rcases iteS h with ⟨b224_2, h⟩ | ⟨b224_2, h⟩
    · refine At.step hm ht ⟨[(2, .b true)], [true], [], [0], [0]⟩ 2 ⟨[(0, .one (.c (.own 0 (.int .u8) b)))], [(0, some ⟨5, 0⟩)], [], 1⟩ [(decide ((bytes : Int) < 1)) = true, true = true] (by kernel_rfl) ⟨b224_2, rfl, trivial⟩ ?_
      have h := Option.some.inj h
      subst h
      exact At.fin hm ht ⟨[], [], [.mv 0 6 0], [6], [0, 3]⟩ [] (by kernel_rfl) trivial
    · rcases iteS h with ⟨b224_e0, h⟩ | ⟨b224_e0, h⟩
      · refine At.step hm ht ⟨[(2, .b false)], [true], [], [0], [0]⟩ 2 ⟨[(0, .one (.c (.own 0 (.int .u8) b)))], [(0, some ⟨5, 0⟩)], [], 1⟩ [(decide ((bytes : Int) < 1)) = false, (decide ((bytes : Int) > 8)) = true] (by kernel_rfl) ⟨b224_2, b224_e0, trivial⟩ ?_
        have h := Option.some.inj h
        subst h
        exact At.fin hm ht ⟨[], [], [.mv 0 6 0], [6], [0, 3]⟩ [] (by kernel_rfl) trivial
      · refine At.step hm ht ⟨[(2, .b false)], [false], [], [0, 1, 2], [0]⟩ 3 ⟨[(0, .one (.c (.own 0 (.int .u8) b))), (1, .one (.c (.d (.int .u64 n_)))), (2, .one (.c (.d (.int .i64 bytes))))], [(0, some ⟨5, 0⟩)], [], 1⟩ [(decide ((bytes : Int) < 1)) = false, (decide ((bytes : Int) > 8)) = false] (by kernel_rfl) ⟨b224_2, b224_e0, trivial⟩ ?_
        obtain ⟨r227_0, cr227_0, h⟩ := bindS h
        refine At.step hm ht ⟨[(5, .call [0] [] (f85_broughamref02_Put_v2_out r227_0))], [], [], [0, 1], [0, 7]⟩ 4 ⟨[(0, .one (.c (.own 1 (.int .u8) r227_0))), (1, .one (.c (.d (.int .u64 n_))))], [(1, some ⟨5, 0⟩)], [], 2⟩ [(256 : Int) ≠ 0, FnOK Go.Proofs.Try.prog 85 (f85_broughamref02_Put_v2_in b (IntKind.wrap .u64 (Int.tdiv n_ 256)) (IntKind.wrap .i64 (bytes - 1))) (f85_broughamref02_Put_v2_out r227_0)] (by kernel_rfl) ⟨(by decide), (ih b (IntKind.wrap .u64 (Int.tdiv n_ 256)) (IntKind.wrap .i64 (bytes - 1)) r227_0 cr227_0), trivial⟩ ?_
        obtain ⟨g228_0, h⟩ := ifS h
        have h := Option.some.inj h
        subst h
        exact At.fin hm ht ⟨[], [], [], [6], [0, 7]⟩ [(256 : Int) ≠ 0, r227_0.length + [(IntKind.wrap .u8 (Int.tmod n_ 256))].length ≤ maxLen ∧ (r227_0.length + [(IntKind.wrap .u8 (Int.tmod n_ 256))].length) * 1 ≤ 140737488355328] (by kernel_rfl) ⟨(by decide), g228_0, trivial⟩
/-! brougham/broughamref09.Path -/
def f49_broughamref09_Path_in (join_0 : Int) (join_1 : Int) (client : Int) (server : Int) : Inn := ⟨[.agg [.d (.int .u64 join_0), .d (.int .u64 join_1)], .c (.d (.int .u32 client)), .c (.d (.int .u32 server))], [], [], 0⟩
def f49_broughamref09_Path_out (r : Int × Int) : Out := ⟨.one (.agg [.d (.int .u64 r.1), .d (.int .u64 r.2)]), [], [(0, [.d (.int .u64 r.1), .d (.int .u64 r.2)])], 1⟩
def f49_broughamref09_Path (n : Nat) (join_0 : Int) (join_1 : Int) (client : Int) (server : Int) : Option (Int × Int) :=
  (f85_broughamref02_Put n (IntKind.wrap .u64 client) 4).bind fun r216_0 =>
  (f85_broughamref02_Put_v2 n r216_0 (IntKind.wrap .u64 server) 4).bind fun r216_1 =>
  (f81_broughamref03_Pair n join_0 join_1 r216_1).bind fun r216_2 =>
  some (r216_2.1, r216_2.2)
theorem f49_broughamref09_Path_ok (n : Nat) (join_0 : Int) (join_1 : Int) (client : Int) (server : Int) (r : Int × Int) (h : f49_broughamref09_Path n join_0 join_1 client server = some r) : FnOK Go.Proofs.Try.prog 49 (f49_broughamref09_Path_in join_0 join_1 client server) (f49_broughamref09_Path_out r) := by
  unfold f49_broughamref09_Path at h
  refine At.fn (r := 0) Go.Proofs.Try.func49 rfl (by kernel_rfl) rfl rfl (by kernel_rfl) ?_
  show At Go.Proofs.Try.prog Go.Proofs.Try.f49 0 0 ⟨[(0, .one (.agg [.d (.int .u64 join_0), .d (.int .u64 join_1)])), (1, .one (.c (.d (.int .u32 client)))), (2, .one (.c (.d (.int .u32 server))))], [], [], 0⟩ _
  refine At.step hm ht ⟨[], [], [], [1, 2, 3, 6], [0, 1]⟩ 1 ⟨[(1, .one (.c (.d (.int .u32 client)))), (2, .one (.c (.d (.int .u32 server)))), (3, .one (.c (.ptr 0 0))), (6, .one (.c (.ptr 1 0)))], [], [(0, [.d (.int .u64 join_0), .d (.int .u64 join_1)]), (1, [.d (.int .u64 0), .d (.int .u64 0)])], 2⟩ [] (by kernel_rfl) trivial ?_
  obtain ⟨r216_0, cr216_0, h⟩ := bindS h
  obtain ⟨r216_1, cr216_1, h⟩ := bindS h
  obtain ⟨r216_2, cr216_2, h⟩ := bindS h
  have h := Option.some.inj h
  subst h
  exact At.fin hm ht ⟨[(3, .call [] [] (f85_broughamref02_Put_out r216_0)), (6, .call [5] [] (f85_broughamref02_Put_v2_out r216_1)), (7, .call [] [] (f81_broughamref03_Pair_out r216_2))], [], [], [6], [1]⟩ [FnOK Go.Proofs.Try.prog 85 (f85_broughamref02_Put_in (IntKind.wrap .u64 client) 4) (f85_broughamref02_Put_out r216_0), FnOK Go.Proofs.Try.prog 85 (f85_broughamref02_Put_v2_in r216_0 (IntKind.wrap .u64 server) 4) (f85_broughamref02_Put_v2_out r216_1), FnOK Go.Proofs.Try.prog 81 (f81_broughamref03_Pair_in join_0 join_1 r216_1) (f81_broughamref03_Pair_out r216_2), 0 + 2 ≤ 2] (by kernel_rfl) ⟨(f85_broughamref02_Put_ok n (IntKind.wrap .u64 client) 4 r216_0 cr216_0), (f85_broughamref02_Put_v2_ok n r216_0 (IntKind.wrap .u64 server) 4 r216_1 cr216_1), (f81_broughamref03_Pair_ok n join_0 join_1 r216_1 r216_2 cr216_2), (by decide), trivial⟩
/-! brougham/broughamlaw09.KeysSessions -/
def f11_broughamlaw09_KeysSessions_in (client : Int) (server : Int) (x_0 : Int) (x_1 : Int) : Inn := ⟨[.c (.d (.int .u64 client)), .c (.d (.int .u64 server)), .agg [.d (.int .u32 x_0), .d (.int .u32 x_1)]], [], [], 0⟩
def f11_broughamlaw09_KeysSessions_out (r : Bool) : Out := ⟨.one (.c (.d (.bool r))), [], [], 0⟩
def f11_broughamlaw09_KeysSessions (n : Nat) (client : Int) (server : Int) (x_0 : Int) (x_1 : Int) : Option (Bool) :=
  (f44_keys_Session n client server).bind fun r202_0 =>
  (f45_broughamref09_Made n client server (⟨#[105, 100]⟩ : ByteArray)).bind fun r203_0 =>
  if (((r202_0.1 : Int) == r203_0.1) && ((r202_0.2.1 : Int) == r203_0.2)) = true then
    (f45_broughamref09_Made n client server (⟨#[99, 108, 105, 101, 110, 116]⟩ : ByteArray)).bind fun r203_1 =>
    if (((r202_0.2.2.1 : Int) == r203_1.1) && ((r202_0.2.2.2.1 : Int) == r203_1.2)) = true then
      (f45_broughamref09_Made n client server (⟨#[115, 101, 114, 118, 101, 114]⟩ : ByteArray)).bind fun r203_2 =>
      if (((r202_0.2.2.2.2.1 : Int) == r203_2.1) && ((r202_0.2.2.2.2.2.1 : Int) == r203_2.2)) = true then
        (f45_broughamref09_Made n client server (⟨#[106, 111, 105, 110]⟩ : ByteArray)).bind fun r203_3 =>
        if (((r202_0.2.2.2.2.2.2.1 : Int) == r203_3.1) && ((r202_0.2.2.2.2.2.2.2.1 : Int) == r203_3.2)) = true then
          (f46_broughamref09_Token n client server).bind fun r206_0 =>
          if ((r202_0.2.2.2.2.2.2.2.2 : Int) == r206_0) = true then
            (f47_keys_Handshake n client server).bind fun r206_1 =>
            (f45_broughamref09_Made n client server (⟨#[97, 110, 115, 119, 101, 114]⟩ : ByteArray)).bind fun r206_2 =>
            if (((r206_1.1 : Int) == r206_2.1) && ((r206_1.2 : Int) == r206_2.2)) = true then
              (f48_keys_Path n r202_0.1 r202_0.2.1 r202_0.2.2.1 r202_0.2.2.2.1 r202_0.2.2.2.2.1 r202_0.2.2.2.2.2.1 r202_0.2.2.2.2.2.2.1 r202_0.2.2.2.2.2.2.2.1 r202_0.2.2.2.2.2.2.2.2 x_0 x_1).bind fun r206_3 =>
              (f49_broughamref09_Path n r202_0.2.2.2.2.2.2.1 r202_0.2.2.2.2.2.2.2.1 x_0 x_1).bind fun r206_4 =>
              if (((r206_3.1 : Int) == r206_4.1) && ((r206_3.2 : Int) == r206_4.2)) = true then
                (f43_broughamlaw09_alive n).bind fun r206_5 =>
                some r206_5
              else
                some false
            else
              some false
          else
            some false
        else
          some false
      else
        some false
    else
      some false
  else
    some false
theorem f11_broughamlaw09_KeysSessions_ok (n : Nat) (client : Int) (server : Int) (x_0 : Int) (x_1 : Int) (r : Bool) (h : f11_broughamlaw09_KeysSessions n client server x_0 x_1 = some r) : FnOK Go.Proofs.Try.prog 11 (f11_broughamlaw09_KeysSessions_in client server x_0 x_1) (f11_broughamlaw09_KeysSessions_out r) := by
  unfold f11_broughamlaw09_KeysSessions at h
  refine At.fn (r := 0) Go.Proofs.Try.func11 rfl (by kernel_rfl) rfl rfl (by kernel_rfl) ?_
  show At Go.Proofs.Try.prog Go.Proofs.Try.f11 0 0 ⟨[(0, .one (.c (.d (.int .u64 client)))), (1, .one (.c (.d (.int .u64 server)))), (2, .one (.agg [.d (.int .u32 x_0), .d (.int .u32 x_1)]))], [], [], 0⟩ _
  refine At.step hm ht ⟨[], [], [], [0, 1, 5], [0]⟩ 1 ⟨[(0, .one (.c (.d (.int .u64 client)))), (1, .one (.c (.d (.int .u64 server)))), (5, .one (.c (.ptr 0 0)))], [], [(0, [.d (.int .u32 x_0), .d (.int .u32 x_1)])], 1⟩ [] (by kernel_rfl) trivial ?_
  obtain ⟨r202_0, cr202_0, h⟩ := bindS h
  refine At.step hm ht ⟨[(2, .call [] [] (f44_keys_Session_out r202_0))], [], [], [0, 1, 5, 7], [0, 4]⟩ 2 ⟨[(0, .one (.c (.d (.int .u64 client)))), (1, .one (.c (.d (.int .u64 server)))), (5, .one (.c (.ptr 0 0))), (7, .one (.c (.ptr 1 0)))], [], [(0, [.d (.int .u32 x_0), .d (.int .u32 x_1)]), (1, [.d (.int .u64 r202_0.1), .d (.int .u64 r202_0.2.1), .d (.int .u64 r202_0.2.2.1), .d (.int .u64 r202_0.2.2.2.1), .d (.int .u64 r202_0.2.2.2.2.1), .d (.int .u64 r202_0.2.2.2.2.2.1), .d (.int .u64 r202_0.2.2.2.2.2.2.1), .d (.int .u64 r202_0.2.2.2.2.2.2.2.1), .d (.int .u32 r202_0.2.2.2.2.2.2.2.2)])], 2⟩ [FnOK Go.Proofs.Try.prog 44 (f44_keys_Session_in client server) (f44_keys_Session_out r202_0), 0 + 9 ≤ 9] (by kernel_rfl) ⟨(f44_keys_Session_ok n client server r202_0 cr202_0), (by decide), trivial⟩ ?_
  obtain ⟨r203_0, cr203_0, h⟩ := bindS h
  rcases iteS h with ⟨b203_6, h⟩ | ⟨b203_6, h⟩
  · obtain ⟨r203_1, cr203_1, h⟩ := bindS h
    rcases iteS h with ⟨b203_14, h⟩ | ⟨b203_14, h⟩
    · obtain ⟨r203_2, cr203_2, h⟩ := bindS h
      rcases iteS h with ⟨b203_22, h⟩ | ⟨b203_22, h⟩
      · obtain ⟨r203_3, cr203_3, h⟩ := bindS h
        refine At.step hm ht ⟨[(4, .call [] [] (f45_broughamref09_Made_out r203_0)), (6, .b true), (11, .call [] [] (f45_broughamref09_Made_out r203_1)), (14, .b true), (19, .call [] [] (f45_broughamref09_Made_out r203_2)), (22, .b true), (27, .call [] [] (f45_broughamref09_Made_out r203_3))], [], [], [0, 1, 5, 7, 8], [0, 1]⟩ 3 ⟨[(0, .one (.c (.d (.int .u64 client)))), (1, .one (.c (.d (.int .u64 server)))), (5, .one (.c (.ptr 0 0))), (7, .one (.c (.ptr 1 0))), (8, .one (.c (.d (.bool (((r202_0.2.2.2.2.2.2.1 : Int) == r203_3.1) && ((r202_0.2.2.2.2.2.2.2.1 : Int) == r203_3.2))))))], [], [(0, [.d (.int .u32 x_0), .d (.int .u32 x_1)]), (1, [.d (.int .u64 r202_0.1), .d (.int .u64 r202_0.2.1), .d (.int .u64 r202_0.2.2.1), .d (.int .u64 r202_0.2.2.2.1), .d (.int .u64 r202_0.2.2.2.2.1), .d (.int .u64 r202_0.2.2.2.2.2.1), .d (.int .u64 r202_0.2.2.2.2.2.2.1), .d (.int .u64 r202_0.2.2.2.2.2.2.2.1), .d (.int .u32 r202_0.2.2.2.2.2.2.2.2)])], 2⟩ [FnOK Go.Proofs.Try.prog 45 (f45_broughamref09_Made_in client server (⟨#[105, 100]⟩ : ByteArray)) (f45_broughamref09_Made_out r203_0), (((r202_0.1 : Int) == r203_0.1) && ((r202_0.2.1 : Int) == r203_0.2)) = true, FnOK Go.Proofs.Try.prog 45 (f45_broughamref09_Made_in client server (⟨#[99, 108, 105, 101, 110, 116]⟩ : ByteArray)) (f45_broughamref09_Made_out r203_1), (((r202_0.2.2.1 : Int) == r203_1.1) && ((r202_0.2.2.2.1 : Int) == r203_1.2)) = true, FnOK Go.Proofs.Try.prog 45 (f45_broughamref09_Made_in client server (⟨#[115, 101, 114, 118, 101, 114]⟩ : ByteArray)) (f45_broughamref09_Made_out r203_2), (((r202_0.2.2.2.2.1 : Int) == r203_2.1) && ((r202_0.2.2.2.2.2.1 : Int) == r203_2.2)) = true, FnOK Go.Proofs.Try.prog 45 (f45_broughamref09_Made_in client server (⟨#[106, 111, 105, 110]⟩ : ByteArray)) (f45_broughamref09_Made_out r203_3)] (by kernel_rfl) ⟨(f45_broughamref09_Made_ok n client server (⟨#[105, 100]⟩ : ByteArray) r203_0 cr203_0), b203_6, (f45_broughamref09_Made_ok n client server (⟨#[99, 108, 105, 101, 110, 116]⟩ : ByteArray) r203_1 cr203_1), b203_14, (f45_broughamref09_Made_ok n client server (⟨#[115, 101, 114, 118, 101, 114]⟩ : ByteArray) r203_2 cr203_2), b203_22, (f45_broughamref09_Made_ok n client server (⟨#[106, 111, 105, 110]⟩ : ByteArray) r203_3 cr203_3), trivial⟩ ?_
        rcases iteS h with ⟨b206_1, h⟩ | ⟨b206_1, h⟩
        · obtain ⟨r206_0, cr206_0, h⟩ := bindS h
          rcases iteS h with ⟨b206_9, h⟩ | ⟨b206_9, h⟩
          · obtain ⟨r206_1, cr206_1, h⟩ := bindS h
            obtain ⟨r206_2, cr206_2, h⟩ := bindS h
            rcases iteS h with ⟨b206_18, h⟩ | ⟨b206_18, h⟩
            · obtain ⟨r206_3, cr206_3, h⟩ := bindS h
              obtain ⟨r206_4, cr206_4, h⟩ := bindS h
              rcases iteS h with ⟨b206_34, h⟩ | ⟨b206_34, h⟩
              · obtain ⟨r206_5, cr206_5, h⟩ := bindS h
                have h := Option.some.inj h
                subst h
                exact At.fin hm ht ⟨[(1, .b true), (6, .call [] [] (f46_broughamref09_Token_out r206_0)), (9, .b true), (12, .call [] [] (f47_keys_Handshake_out r206_1)), (15, .call [] [] (f45_broughamref09_Made_out r206_2)), (18, .b true), (24, .call [] [] (f48_keys_Path_out r206_3)), (31, .call [] [] (f49_broughamref09_Path_out r206_4)), (34, .b true), (35, .call [] [] (f43_broughamlaw09_alive_out r206_5))], [], [], [6], []⟩ [(((r202_0.2.2.2.2.2.2.1 : Int) == r203_3.1) && ((r202_0.2.2.2.2.2.2.2.1 : Int) == r203_3.2)) = true, FnOK Go.Proofs.Try.prog 46 (f46_broughamref09_Token_in client server) (f46_broughamref09_Token_out r206_0), ((r202_0.2.2.2.2.2.2.2.2 : Int) == r206_0) = true, FnOK Go.Proofs.Try.prog 47 (f47_keys_Handshake_in client server) (f47_keys_Handshake_out r206_1), FnOK Go.Proofs.Try.prog 45 (f45_broughamref09_Made_in client server (⟨#[97, 110, 115, 119, 101, 114]⟩ : ByteArray)) (f45_broughamref09_Made_out r206_2), (((r206_1.1 : Int) == r206_2.1) && ((r206_1.2 : Int) == r206_2.2)) = true, FnOK Go.Proofs.Try.prog 48 (f48_keys_Path_in r202_0.1 r202_0.2.1 r202_0.2.2.1 r202_0.2.2.2.1 r202_0.2.2.2.2.1 r202_0.2.2.2.2.2.1 r202_0.2.2.2.2.2.2.1 r202_0.2.2.2.2.2.2.2.1 r202_0.2.2.2.2.2.2.2.2 x_0 x_1) (f48_keys_Path_out r206_3), FnOK Go.Proofs.Try.prog 49 (f49_broughamref09_Path_in r202_0.2.2.2.2.2.2.1 r202_0.2.2.2.2.2.2.2.1 x_0 x_1) (f49_broughamref09_Path_out r206_4), (((r206_3.1 : Int) == r206_4.1) && ((r206_3.2 : Int) == r206_4.2)) = true, FnOK Go.Proofs.Try.prog 43 (f43_broughamlaw09_alive_in) (f43_broughamlaw09_alive_out r206_5)] (by kernel_rfl) ⟨b206_1, (f46_broughamref09_Token_ok n client server r206_0 cr206_0), b206_9, (f47_keys_Handshake_ok n client server r206_1 cr206_1), (f45_broughamref09_Made_ok n client server (⟨#[97, 110, 115, 119, 101, 114]⟩ : ByteArray) r206_2 cr206_2), b206_18, (f48_keys_Path_ok n r202_0.1 r202_0.2.1 r202_0.2.2.1 r202_0.2.2.2.1 r202_0.2.2.2.2.1 r202_0.2.2.2.2.2.1 r202_0.2.2.2.2.2.2.1 r202_0.2.2.2.2.2.2.2.1 r202_0.2.2.2.2.2.2.2.2 x_0 x_1 r206_3 cr206_3), (f49_broughamref09_Path_ok n r202_0.2.2.2.2.2.2.1 r202_0.2.2.2.2.2.2.2.1 x_0 x_1 r206_4 cr206_4), b206_34, (f43_broughamlaw09_alive_ok n r206_5 cr206_5), trivial⟩
              · have h := Option.some.inj h
                subst h
                exact At.fin hm ht ⟨[(1, .b true), (6, .call [] [] (f46_broughamref09_Token_out r206_0)), (9, .b true), (12, .call [] [] (f47_keys_Handshake_out r206_1)), (15, .call [] [] (f45_broughamref09_Made_out r206_2)), (18, .b true), (24, .call [] [] (f48_keys_Path_out r206_3)), (31, .call [] [] (f49_broughamref09_Path_out r206_4)), (34, .b false)], [], [], [6], []⟩ [(((r202_0.2.2.2.2.2.2.1 : Int) == r203_3.1) && ((r202_0.2.2.2.2.2.2.2.1 : Int) == r203_3.2)) = true, FnOK Go.Proofs.Try.prog 46 (f46_broughamref09_Token_in client server) (f46_broughamref09_Token_out r206_0), ((r202_0.2.2.2.2.2.2.2.2 : Int) == r206_0) = true, FnOK Go.Proofs.Try.prog 47 (f47_keys_Handshake_in client server) (f47_keys_Handshake_out r206_1), FnOK Go.Proofs.Try.prog 45 (f45_broughamref09_Made_in client server (⟨#[97, 110, 115, 119, 101, 114]⟩ : ByteArray)) (f45_broughamref09_Made_out r206_2), (((r206_1.1 : Int) == r206_2.1) && ((r206_1.2 : Int) == r206_2.2)) = true, FnOK Go.Proofs.Try.prog 48 (f48_keys_Path_in r202_0.1 r202_0.2.1 r202_0.2.2.1 r202_0.2.2.2.1 r202_0.2.2.2.2.1 r202_0.2.2.2.2.2.1 r202_0.2.2.2.2.2.2.1 r202_0.2.2.2.2.2.2.2.1 r202_0.2.2.2.2.2.2.2.2 x_0 x_1) (f48_keys_Path_out r206_3), FnOK Go.Proofs.Try.prog 49 (f49_broughamref09_Path_in r202_0.2.2.2.2.2.2.1 r202_0.2.2.2.2.2.2.2.1 x_0 x_1) (f49_broughamref09_Path_out r206_4), (((r206_3.1 : Int) == r206_4.1) && ((r206_3.2 : Int) == r206_4.2)) = false] (by kernel_rfl) ⟨b206_1, (f46_broughamref09_Token_ok n client server r206_0 cr206_0), b206_9, (f47_keys_Handshake_ok n client server r206_1 cr206_1), (f45_broughamref09_Made_ok n client server (⟨#[97, 110, 115, 119, 101, 114]⟩ : ByteArray) r206_2 cr206_2), b206_18, (f48_keys_Path_ok n r202_0.1 r202_0.2.1 r202_0.2.2.1 r202_0.2.2.2.1 r202_0.2.2.2.2.1 r202_0.2.2.2.2.2.1 r202_0.2.2.2.2.2.2.1 r202_0.2.2.2.2.2.2.2.1 r202_0.2.2.2.2.2.2.2.2 x_0 x_1 r206_3 cr206_3), (f49_broughamref09_Path_ok n r202_0.2.2.2.2.2.2.1 r202_0.2.2.2.2.2.2.2.1 x_0 x_1 r206_4 cr206_4), b206_34, trivial⟩
            · have h := Option.some.inj h
              subst h
              exact At.fin hm ht ⟨[(1, .b true), (6, .call [] [] (f46_broughamref09_Token_out r206_0)), (9, .b true), (12, .call [] [] (f47_keys_Handshake_out r206_1)), (15, .call [] [] (f45_broughamref09_Made_out r206_2)), (18, .b false)], [], [], [6], []⟩ [(((r202_0.2.2.2.2.2.2.1 : Int) == r203_3.1) && ((r202_0.2.2.2.2.2.2.2.1 : Int) == r203_3.2)) = true, FnOK Go.Proofs.Try.prog 46 (f46_broughamref09_Token_in client server) (f46_broughamref09_Token_out r206_0), ((r202_0.2.2.2.2.2.2.2.2 : Int) == r206_0) = true, FnOK Go.Proofs.Try.prog 47 (f47_keys_Handshake_in client server) (f47_keys_Handshake_out r206_1), FnOK Go.Proofs.Try.prog 45 (f45_broughamref09_Made_in client server (⟨#[97, 110, 115, 119, 101, 114]⟩ : ByteArray)) (f45_broughamref09_Made_out r206_2), (((r206_1.1 : Int) == r206_2.1) && ((r206_1.2 : Int) == r206_2.2)) = false] (by kernel_rfl) ⟨b206_1, (f46_broughamref09_Token_ok n client server r206_0 cr206_0), b206_9, (f47_keys_Handshake_ok n client server r206_1 cr206_1), (f45_broughamref09_Made_ok n client server (⟨#[97, 110, 115, 119, 101, 114]⟩ : ByteArray) r206_2 cr206_2), b206_18, trivial⟩
          · have h := Option.some.inj h
            subst h
            exact At.fin hm ht ⟨[(1, .b true), (6, .call [] [] (f46_broughamref09_Token_out r206_0)), (9, .b false)], [], [], [6], []⟩ [(((r202_0.2.2.2.2.2.2.1 : Int) == r203_3.1) && ((r202_0.2.2.2.2.2.2.2.1 : Int) == r203_3.2)) = true, FnOK Go.Proofs.Try.prog 46 (f46_broughamref09_Token_in client server) (f46_broughamref09_Token_out r206_0), ((r202_0.2.2.2.2.2.2.2.2 : Int) == r206_0) = false] (by kernel_rfl) ⟨b206_1, (f46_broughamref09_Token_ok n client server r206_0 cr206_0), b206_9, trivial⟩
        · have h := Option.some.inj h
          subst h
          exact At.fin hm ht ⟨[(1, .b false)], [], [], [6], []⟩ [(((r202_0.2.2.2.2.2.2.1 : Int) == r203_3.1) && ((r202_0.2.2.2.2.2.2.2.1 : Int) == r203_3.2)) = false] (by kernel_rfl) ⟨b206_1, trivial⟩
      · refine At.step hm ht ⟨[(4, .call [] [] (f45_broughamref09_Made_out r203_0)), (6, .b true), (11, .call [] [] (f45_broughamref09_Made_out r203_1)), (14, .b true), (19, .call [] [] (f45_broughamref09_Made_out r203_2)), (22, .b false)], [], [], [0, 1, 5, 7, 8], [0, 1]⟩ 3 ⟨[(0, .one (.c (.d (.int .u64 client)))), (1, .one (.c (.d (.int .u64 server)))), (5, .one (.c (.ptr 0 0))), (7, .one (.c (.ptr 1 0))), (8, .one (.c (.d (.bool false))))], [], [(0, [.d (.int .u32 x_0), .d (.int .u32 x_1)]), (1, [.d (.int .u64 r202_0.1), .d (.int .u64 r202_0.2.1), .d (.int .u64 r202_0.2.2.1), .d (.int .u64 r202_0.2.2.2.1), .d (.int .u64 r202_0.2.2.2.2.1), .d (.int .u64 r202_0.2.2.2.2.2.1), .d (.int .u64 r202_0.2.2.2.2.2.2.1), .d (.int .u64 r202_0.2.2.2.2.2.2.2.1), .d (.int .u32 r202_0.2.2.2.2.2.2.2.2)])], 2⟩ [FnOK Go.Proofs.Try.prog 45 (f45_broughamref09_Made_in client server (⟨#[105, 100]⟩ : ByteArray)) (f45_broughamref09_Made_out r203_0), (((r202_0.1 : Int) == r203_0.1) && ((r202_0.2.1 : Int) == r203_0.2)) = true, FnOK Go.Proofs.Try.prog 45 (f45_broughamref09_Made_in client server (⟨#[99, 108, 105, 101, 110, 116]⟩ : ByteArray)) (f45_broughamref09_Made_out r203_1), (((r202_0.2.2.1 : Int) == r203_1.1) && ((r202_0.2.2.2.1 : Int) == r203_1.2)) = true, FnOK Go.Proofs.Try.prog 45 (f45_broughamref09_Made_in client server (⟨#[115, 101, 114, 118, 101, 114]⟩ : ByteArray)) (f45_broughamref09_Made_out r203_2), (((r202_0.2.2.2.2.1 : Int) == r203_2.1) && ((r202_0.2.2.2.2.2.1 : Int) == r203_2.2)) = false] (by kernel_rfl) ⟨(f45_broughamref09_Made_ok n client server (⟨#[105, 100]⟩ : ByteArray) r203_0 cr203_0), b203_6, (f45_broughamref09_Made_ok n client server (⟨#[99, 108, 105, 101, 110, 116]⟩ : ByteArray) r203_1 cr203_1), b203_14, (f45_broughamref09_Made_ok n client server (⟨#[115, 101, 114, 118, 101, 114]⟩ : ByteArray) r203_2 cr203_2), b203_22, trivial⟩ ?_
        have h := Option.some.inj h
        subst h
        exact At.fin hm ht ⟨[], [], [], [6], []⟩ [] (by kernel_rfl) trivial
    · refine At.step hm ht ⟨[(4, .call [] [] (f45_broughamref09_Made_out r203_0)), (6, .b true), (11, .call [] [] (f45_broughamref09_Made_out r203_1)), (14, .b false)], [], [], [0, 1, 5, 7, 8], [0, 1]⟩ 3 ⟨[(0, .one (.c (.d (.int .u64 client)))), (1, .one (.c (.d (.int .u64 server)))), (5, .one (.c (.ptr 0 0))), (7, .one (.c (.ptr 1 0))), (8, .one (.c (.d (.bool false))))], [], [(0, [.d (.int .u32 x_0), .d (.int .u32 x_1)]), (1, [.d (.int .u64 r202_0.1), .d (.int .u64 r202_0.2.1), .d (.int .u64 r202_0.2.2.1), .d (.int .u64 r202_0.2.2.2.1), .d (.int .u64 r202_0.2.2.2.2.1), .d (.int .u64 r202_0.2.2.2.2.2.1), .d (.int .u64 r202_0.2.2.2.2.2.2.1), .d (.int .u64 r202_0.2.2.2.2.2.2.2.1), .d (.int .u32 r202_0.2.2.2.2.2.2.2.2)])], 2⟩ [FnOK Go.Proofs.Try.prog 45 (f45_broughamref09_Made_in client server (⟨#[105, 100]⟩ : ByteArray)) (f45_broughamref09_Made_out r203_0), (((r202_0.1 : Int) == r203_0.1) && ((r202_0.2.1 : Int) == r203_0.2)) = true, FnOK Go.Proofs.Try.prog 45 (f45_broughamref09_Made_in client server (⟨#[99, 108, 105, 101, 110, 116]⟩ : ByteArray)) (f45_broughamref09_Made_out r203_1), (((r202_0.2.2.1 : Int) == r203_1.1) && ((r202_0.2.2.2.1 : Int) == r203_1.2)) = false] (by kernel_rfl) ⟨(f45_broughamref09_Made_ok n client server (⟨#[105, 100]⟩ : ByteArray) r203_0 cr203_0), b203_6, (f45_broughamref09_Made_ok n client server (⟨#[99, 108, 105, 101, 110, 116]⟩ : ByteArray) r203_1 cr203_1), b203_14, trivial⟩ ?_
      have h := Option.some.inj h
      subst h
      exact At.fin hm ht ⟨[], [], [], [6], []⟩ [] (by kernel_rfl) trivial
  · refine At.step hm ht ⟨[(4, .call [] [] (f45_broughamref09_Made_out r203_0)), (6, .b false)], [], [], [0, 1, 5, 7, 8], [0, 1]⟩ 3 ⟨[(0, .one (.c (.d (.int .u64 client)))), (1, .one (.c (.d (.int .u64 server)))), (5, .one (.c (.ptr 0 0))), (7, .one (.c (.ptr 1 0))), (8, .one (.c (.d (.bool false))))], [], [(0, [.d (.int .u32 x_0), .d (.int .u32 x_1)]), (1, [.d (.int .u64 r202_0.1), .d (.int .u64 r202_0.2.1), .d (.int .u64 r202_0.2.2.1), .d (.int .u64 r202_0.2.2.2.1), .d (.int .u64 r202_0.2.2.2.2.1), .d (.int .u64 r202_0.2.2.2.2.2.1), .d (.int .u64 r202_0.2.2.2.2.2.2.1), .d (.int .u64 r202_0.2.2.2.2.2.2.2.1), .d (.int .u32 r202_0.2.2.2.2.2.2.2.2)])], 2⟩ [FnOK Go.Proofs.Try.prog 45 (f45_broughamref09_Made_in client server (⟨#[105, 100]⟩ : ByteArray)) (f45_broughamref09_Made_out r203_0), (((r202_0.1 : Int) == r203_0.1) && ((r202_0.2.1 : Int) == r203_0.2)) = false] (by kernel_rfl) ⟨(f45_broughamref09_Made_ok n client server (⟨#[105, 100]⟩ : ByteArray) r203_0 cr203_0), b203_6, trivial⟩ ?_
    have h := Option.some.inj h
    subst h
    exact At.fin hm ht ⟨[], [], [], [6], []⟩ [] (by kernel_rfl) trivial
end Go.Proofs.YtdcnjkjgmagjmaaF09
