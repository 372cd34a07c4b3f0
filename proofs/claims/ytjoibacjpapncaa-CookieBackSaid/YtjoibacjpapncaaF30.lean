/- What the functions compute, and that they do: printed by a program of this session (zgen.py), proved by Zed. -/
import Derived.Test.YtjoibacjpapncaaProg
import Derived.Test.YtjoibacjpapncaaZedY
namespace Go.Proofs.YtjoibacjpapncaaF30
open Go Zed
set_option maxRecDepth 100000
set_option linter.unusedVariables false
def tab : Tab := [(3, ⟨.int .i64, 1, 8, [.int .i64 0], some (.int .i64), none⟩), (5, ⟨.int .u8, 1, 1, [.int .u8 0], some (.int .u8), none⟩), (22, ⟨.int .u64, 1, 8, [.int .u64 0], some (.int .u64), none⟩), (24, ⟨.struct [(0, 22), (1, 22)], 2, 16, [.int .u64 0, .int .u64 0], some (.pair (.int .u64) (.int .u64)), some [(0, 22), (1, 22)]⟩), (25, ⟨.int .u16, 1, 2, [.int .u16 0], some (.int .u16), none⟩), (26, ⟨.int .u32, 1, 4, [.int .u32 0], some (.int .u32), none⟩), (28, ⟨.struct [(0, 3), (1, 25), (2, 25), (3, 26)], 4, 16, [.int .i64 0, .int .u16 0, .int .u16 0, .int .u32 0], some (.pair (.int .i64) (.pair (.int .u16) (.pair (.int .u16) (.int .u32)))), some [(0, 3), (1, 25), (2, 25), (3, 26)]⟩), (30, ⟨.struct [(0, 3), (1, 3), (2, 3)], 3, 24, [.int .i64 0, .int .i64 0, .int .i64 0], some (.pair (.int .i64) (.pair (.int .i64) (.int .i64))), some [(0, 3), (1, 3), (2, 3)]⟩), (38, ⟨.slice 5, 1, 24, [.sl .unit []], some (.slice (.int .u8)), none⟩), (133, ⟨.int .u64, 1, 8, [.int .u64 0], some (.int .u64), none⟩), (135, ⟨.arr 8 3, 8, 64, [.int .i64 0, .int .i64 0, .int .i64 0, .int .i64 0, .int .i64 0, .int .i64 0, .int .i64 0, .int .i64 0], some (.pair (.int .i64) (.pair (.int .i64) (.pair (.int .i64) (.pair (.int .i64) (.pair (.int .i64) (.pair (.int .i64) (.pair (.int .i64) (.int .i64)))))))), none⟩), (139, ⟨.struct [(0, 3), (1, 22)], 2, 16, [.int .i64 0, .int .u64 0], some (.pair (.int .i64) (.int .u64)), some [(0, 3), (1, 22)]⟩), (221, ⟨.slice 139, 1, 24, [.sl .unit []], some (.slice (.pair (.int .i64) (.int .u64))), none⟩), (239, ⟨.slice 38, 1, 24, [.sl .unit []], some (.slice (.slice (.int .u8))), none⟩), (248, ⟨.arr 4 22, 4, 32, [.int .u64 0, .int .u64 0, .int .u64 0, .int .u64 0], some (.pair (.int .u64) (.pair (.int .u64) (.pair (.int .u64) (.int .u64)))), none⟩), (250, ⟨.struct [(0, 248), (4, 22), (5, 3)], 6, 48, [.int .u64 0, .int .u64 0, .int .u64 0, .int .u64 0, .int .u64 0, .int .i64 0], some (.pair (.pair (.int .u64) (.pair (.int .u64) (.pair (.int .u64) (.int .u64)))) (.pair (.int .u64) (.int .i64))), some [(0, 248), (4, 22), (5, 3)]⟩)]
theorem ht : TabOk Go.Proofs.Try.prog tab := tabOk_of (ts := [3, 5, 22, 24, 25, 26, 28, 30, 38, 133, 135, 139, 221, 239, 248, 250]) (by kernel_rfl)
theorem hm : Go.Proofs.Try.prog.follows .mixedOrders = true := by kernel_rfl
/-! brougham/cookie.epoch -/
def f74_cookie_epoch_in (tick : Int) : Inn := ⟨[.c (.d (.int .i64 tick))], [], [], 0⟩
def f74_cookie_epoch_out (r : Int) : Out := ⟨.one (.c (.d (.int .u32 r))), [], [], 0⟩
def f74_cookie_epoch (tick : Int) : Option (Int) :=
  some (IntKind.wrap .u32 (IntKind.wrap .i64 (Int.tdiv (if tick < 0 then 0 else tick) 64)))
theorem f74_cookie_epoch_ok (tick : Int) (r : Int) (h : f74_cookie_epoch tick = some r) : FnOK Go.Proofs.Try.prog 74 (f74_cookie_epoch_in tick) (f74_cookie_epoch_out r) := by
  unfold f74_cookie_epoch at h
  refine At.fn (r := 0) Go.Proofs.Try.func74 rfl (by kernel_rfl) rfl rfl (by kernel_rfl) ?_
  show At Go.Proofs.Try.prog Go.Proofs.Try.f74 0 0 ⟨[(0, .one (.c (.d (.int .i64 tick))))], [], [], 0⟩ _
  refine At.step hm ht ⟨[], [], [], [0], []⟩ 1 ⟨[(0, .one (.c (.d (.int .i64 tick))))], [], [], 0⟩ [] (by kernel_rfl) trivial ?_
  have h := Option.some.inj h
  subst h
  exact At.fin hm ht ⟨[], [], [], [2], []⟩ [(64 : Int) ≠ 0] (by kernel_rfl) ⟨(by decide), trivial⟩
/-! brougham/cookie.sizes -/
def f76_cookie_sizes_in : Inn := ⟨[], [], [], 0⟩
def f76_cookie_sizes_out (r : Int × Int × Int × Int × Int × Int × Int × Int) : Out := ⟨.one (.agg [.d (.int .i64 r.1), .d (.int .i64 r.2.1), .d (.int .i64 r.2.2.1), .d (.int .i64 r.2.2.2.1), .d (.int .i64 r.2.2.2.2.1), .d (.int .i64 r.2.2.2.2.2.1), .d (.int .i64 r.2.2.2.2.2.2.1), .d (.int .i64 r.2.2.2.2.2.2.2)]), [], [(0, [.d (.int .i64 r.1), .d (.int .i64 r.2.1), .d (.int .i64 r.2.2.1), .d (.int .i64 r.2.2.2.1), .d (.int .i64 r.2.2.2.2.1), .d (.int .i64 r.2.2.2.2.2.1), .d (.int .i64 r.2.2.2.2.2.2.1), .d (.int .i64 r.2.2.2.2.2.2.2)])], 1⟩
def f76_cookie_sizes : Option (Int × Int × Int × Int × Int × Int × Int × Int) :=
  some (1, 16, 64, 128, 256, 512, 768, 1024)
theorem f76_cookie_sizes_ok (r : Int × Int × Int × Int × Int × Int × Int × Int) (h : f76_cookie_sizes = some r) : FnOK Go.Proofs.Try.prog 76 (f76_cookie_sizes_in) (f76_cookie_sizes_out r) := by
  unfold f76_cookie_sizes at h
  refine At.fn (r := 0) Go.Proofs.Try.func76 rfl (by kernel_rfl) rfl rfl (by kernel_rfl) ?_
  show At Go.Proofs.Try.prog Go.Proofs.Try.f76 0 0 ⟨[], [], [], 0⟩ _
  refine At.step hm ht ⟨[], [], [], [0], [0]⟩ 1 ⟨[(0, .one (.c (.ptr 0 0)))], [], [(0, [.d (.int .i64 0), .d (.int .i64 0), .d (.int .i64 0), .d (.int .i64 0), .d (.int .i64 0), .d (.int .i64 0), .d (.int .i64 0), .d (.int .i64 0)])], 1⟩ [] (by kernel_rfl) trivial ?_
  have h := Option.some.inj h
  subst h
  exact At.fin hm ht ⟨[], [], [], [0], [0]⟩ [0 + 8 ≤ 8] (by kernel_rfl) ⟨(by decide), trivial⟩
/-! brougham/cookie.Size -/
def f17_cookie_Size_in (mss : Int) : Inn := ⟨[.c (.d (.int .i64 mss))], [], [], 0⟩
def f17_cookie_Size_out (r : Int) : Out := ⟨.one (.c (.d (.int .i64 r))), [], [], 0⟩
def f17_cookie_Size_L3 : Nat → Int → Int → Int → Int → Int → Int → Int → Int → Int → Int → Int → Option (Int)
  | 0, _, _, _, _, _, _, _, _, _, _, _ => none
  | n + 1, mss, out, t6_0, t6_1, t6_2, t6_3, t6_4, t6_5, t6_6, t6_7, t7 =>
    if (decide ((t7 : Int) < 8)) = true then
      if (0 : Int) ≤ t7 ∧ t7 < 8 then
      if (decide (((([t6_0, t6_1, t6_2, t6_3, t6_4, t6_5, t6_6, t6_7] : List Int).getD t7.toNat 0) : Int) ≤ mss)) = true then
        f17_cookie_Size_L3 n mss (([t6_0, t6_1, t6_2, t6_3, t6_4, t6_5, t6_6, t6_7] : List Int).getD t7.toNat 0) t6_0 t6_1 t6_2 t6_3 t6_4 t6_5 t6_6 t6_7 (IntKind.wrap .i64 (t7 + 1))
      else
        f17_cookie_Size_L3 n mss out t6_0 t6_1 t6_2 t6_3 t6_4 t6_5 t6_6 t6_7 (IntKind.wrap .i64 (t7 + 1))
      else none
    else
      some (out)
def f17_cookie_Size_L3_k (e : Int) (o : Out) : Prop := At Go.Proofs.Try.prog Go.Proofs.Try.f17 0 8 ⟨[(3, .one (.c (.d (.int .i64 e))))], [], [], 0⟩ o
theorem f17_cookie_Size_L3_ok (n : Nat) : ∀ (mss : Int) (out : Int) (t6_0 : Int) (t6_1 : Int) (t6_2 : Int) (t6_3 : Int) (t6_4 : Int) (t6_5 : Int) (t6_6 : Int) (t6_7 : Int) (t7 : Int) (w : Int) (h : f17_cookie_Size_L3 n mss out t6_0 t6_1 t6_2 t6_3 t6_4 t6_5 t6_6 t6_7 t7 = some w) (o : Out) (hk : f17_cookie_Size_L3_k w o), At Go.Proofs.Try.prog Go.Proofs.Try.f17 0 3 ⟨[(0, .one (.c (.d (.int .i64 mss)))), (3, .one (.c (.d (.int .i64 out)))), (6, .one (.agg [.d (.int .i64 t6_0), .d (.int .i64 t6_1), .d (.int .i64 t6_2), .d (.int .i64 t6_3), .d (.int .i64 t6_4), .d (.int .i64 t6_5), .d (.int .i64 t6_6), .d (.int .i64 t6_7)])), (7, .one (.c (.d (.int .i64 t7))))], [], [], 0⟩ o := by
  induction n with
  | zero => intro mss out t6_0 t6_1 t6_2 t6_3 t6_4 t6_5 t6_6 t6_7 t7 w h; rw [f17_cookie_Size_L3] at h; cases h
  | succ n ih =>
    intro mss out t6_0 t6_1 t6_2 t6_3 t6_4 t6_5 t6_6 t6_7 t7 w h o hk
    rw [f17_cookie_Size_L3] at h
    rcases iteS h with ⟨b17_e0, h⟩ | ⟨b17_e0, h⟩
    · refine At.step hm ht ⟨[], [true], [], [0, 3, 6, 7], []⟩ 4 ⟨[(0, .one (.c (.d (.int .i64 mss)))), (3, .one (.c (.d (.int .i64 out)))), (6, .one (.agg [.d (.int .i64 t6_0), .d (.int .i64 t6_1), .d (.int .i64 t6_2), .d (.int .i64 t6_3), .d (.int .i64 t6_4), .d (.int .i64 t6_5), .d (.int .i64 t6_6), .d (.int .i64 t6_7)])), (7, .one (.c (.d (.int .i64 t7))))], [], [], 0⟩ [(decide ((t7 : Int) < 8)) = true] (by kernel_rfl) ⟨b17_e0, trivial⟩ ?_
      obtain ⟨g18_0, h⟩ := ifS h
      refine At.step hm ht ⟨[], [], [], [0, 3, 5, 6, 7], []⟩ 5 ⟨[(0, .one (.c (.d (.int .i64 mss)))), (3, .one (.c (.d (.int .i64 out)))), (5, .one (.c (.d (.int .i64 (([t6_0, t6_1, t6_2, t6_3, t6_4, t6_5, t6_6, t6_7] : List Int).getD t7.toNat 0))))), (6, .one (.agg [.d (.int .i64 t6_0), .d (.int .i64 t6_1), .d (.int .i64 t6_2), .d (.int .i64 t6_3), .d (.int .i64 t6_4), .d (.int .i64 t6_5), .d (.int .i64 t6_6), .d (.int .i64 t6_7)])), (7, .one (.c (.d (.int .i64 t7))))], [], [], 0⟩ [(0 : Int) ≤ t7 ∧ t7 < 8] (by kernel_rfl) ⟨g18_0, trivial⟩ ?_
      rcases iteS h with ⟨b19_e0, h⟩ | ⟨b19_e0, h⟩
      · refine At.step hm ht ⟨[], [true], [], [0, 5, 6, 7], []⟩ 6 ⟨[(0, .one (.c (.d (.int .i64 mss)))), (5, .one (.c (.d (.int .i64 (([t6_0, t6_1, t6_2, t6_3, t6_4, t6_5, t6_6, t6_7] : List Int).getD t7.toNat 0))))), (6, .one (.agg [.d (.int .i64 t6_0), .d (.int .i64 t6_1), .d (.int .i64 t6_2), .d (.int .i64 t6_3), .d (.int .i64 t6_4), .d (.int .i64 t6_5), .d (.int .i64 t6_6), .d (.int .i64 t6_7)])), (7, .one (.c (.d (.int .i64 t7))))], [], [], 0⟩ [(decide (((([t6_0, t6_1, t6_2, t6_3, t6_4, t6_5, t6_6, t6_7] : List Int).getD t7.toNat 0) : Int) ≤ mss)) = true] (by kernel_rfl) ⟨b19_e0, trivial⟩ ?_
        refine At.step hm ht ⟨[], [], [], [0, 3, 6, 7], []⟩ 7 ⟨[(0, .one (.c (.d (.int .i64 mss)))), (3, .one (.c (.d (.int .i64 (([t6_0, t6_1, t6_2, t6_3, t6_4, t6_5, t6_6, t6_7] : List Int).getD t7.toNat 0))))), (6, .one (.agg [.d (.int .i64 t6_0), .d (.int .i64 t6_1), .d (.int .i64 t6_2), .d (.int .i64 t6_3), .d (.int .i64 t6_4), .d (.int .i64 t6_5), .d (.int .i64 t6_6), .d (.int .i64 t6_7)])), (7, .one (.c (.d (.int .i64 t7))))], [], [], 0⟩ [] (by kernel_rfl) trivial ?_
        refine At.step hm ht ⟨[], [], [], [0, 3, 6, 7], []⟩ 3 ⟨[(0, .one (.c (.d (.int .i64 mss)))), (3, .one (.c (.d (.int .i64 (([t6_0, t6_1, t6_2, t6_3, t6_4, t6_5, t6_6, t6_7] : List Int).getD t7.toNat 0))))), (6, .one (.agg [.d (.int .i64 t6_0), .d (.int .i64 t6_1), .d (.int .i64 t6_2), .d (.int .i64 t6_3), .d (.int .i64 t6_4), .d (.int .i64 t6_5), .d (.int .i64 t6_6), .d (.int .i64 t6_7)])), (7, .one (.c (.d (.int .i64 (IntKind.wrap .i64 (t7 + 1))))))], [], [], 0⟩ [] (by kernel_rfl) trivial ?_
        exact ih mss (([t6_0, t6_1, t6_2, t6_3, t6_4, t6_5, t6_6, t6_7] : List Int).getD t7.toNat 0) t6_0 t6_1 t6_2 t6_3 t6_4 t6_5 t6_6 t6_7 (IntKind.wrap .i64 (t7 + 1)) w h o hk
      · refine At.step hm ht ⟨[], [false], [], [0, 3, 6, 7], []⟩ 7 ⟨[(0, .one (.c (.d (.int .i64 mss)))), (3, .one (.c (.d (.int .i64 out)))), (6, .one (.agg [.d (.int .i64 t6_0), .d (.int .i64 t6_1), .d (.int .i64 t6_2), .d (.int .i64 t6_3), .d (.int .i64 t6_4), .d (.int .i64 t6_5), .d (.int .i64 t6_6), .d (.int .i64 t6_7)])), (7, .one (.c (.d (.int .i64 t7))))], [], [], 0⟩ [(decide (((([t6_0, t6_1, t6_2, t6_3, t6_4, t6_5, t6_6, t6_7] : List Int).getD t7.toNat 0) : Int) ≤ mss)) = false] (by kernel_rfl) ⟨b19_e0, trivial⟩ ?_
        refine At.step hm ht ⟨[], [], [], [0, 3, 6, 7], []⟩ 3 ⟨[(0, .one (.c (.d (.int .i64 mss)))), (3, .one (.c (.d (.int .i64 out)))), (6, .one (.agg [.d (.int .i64 t6_0), .d (.int .i64 t6_1), .d (.int .i64 t6_2), .d (.int .i64 t6_3), .d (.int .i64 t6_4), .d (.int .i64 t6_5), .d (.int .i64 t6_6), .d (.int .i64 t6_7)])), (7, .one (.c (.d (.int .i64 (IntKind.wrap .i64 (t7 + 1))))))], [], [], 0⟩ [] (by kernel_rfl) trivial ?_
        exact ih mss out t6_0 t6_1 t6_2 t6_3 t6_4 t6_5 t6_6 t6_7 (IntKind.wrap .i64 (t7 + 1)) w h o hk
    · refine At.step hm ht ⟨[], [false], [], [3], []⟩ 8 ⟨[(3, .one (.c (.d (.int .i64 out))))], [], [], 0⟩ [(decide ((t7 : Int) < 8)) = false] (by kernel_rfl) ⟨b17_e0, trivial⟩ ?_
      have h := Option.some.inj h
      subst h
      exact hk
def f17_cookie_Size (n : Nat) (mss : Int) : Option (Int) :=
  (f76_cookie_sizes).bind fun r14_0 =>
  (f17_cookie_Size_L3 n mss 1 r14_0.1 r14_0.2.1 r14_0.2.2.1 r14_0.2.2.2.1 r14_0.2.2.2.2.1 r14_0.2.2.2.2.2.1 r14_0.2.2.2.2.2.2.1 r14_0.2.2.2.2.2.2.2 0).bind fun w23 =>
  some w23
theorem f17_cookie_Size_ok (n : Nat) (mss : Int) (r : Int) (h : f17_cookie_Size n mss = some r) : FnOK Go.Proofs.Try.prog 17 (f17_cookie_Size_in mss) (f17_cookie_Size_out r) := by
  unfold f17_cookie_Size at h
  refine At.fn (r := 0) Go.Proofs.Try.func17 rfl (by kernel_rfl) rfl rfl (by kernel_rfl) ?_
  show At Go.Proofs.Try.prog Go.Proofs.Try.f17 0 0 ⟨[(0, .one (.c (.d (.int .i64 mss))))], [], [], 0⟩ _
  refine At.step hm ht ⟨[], [], [], [0], []⟩ 1 ⟨[(0, .one (.c (.d (.int .i64 mss))))], [], [], 0⟩ [] (by kernel_rfl) trivial ?_
  refine At.step hm ht ⟨[], [], [], [0, 3], []⟩ 2 ⟨[(0, .one (.c (.d (.int .i64 mss)))), (3, .one (.c (.d (.int .i64 1))))], [], [], 0⟩ [] (by kernel_rfl) trivial ?_
  obtain ⟨r14_0, cr14_0, h⟩ := bindS h
  refine At.step hm ht ⟨[(0, .call [] [] (f76_cookie_sizes_out r14_0))], [], [], [0, 3, 6, 7], []⟩ 3 ⟨[(0, .one (.c (.d (.int .i64 mss)))), (3, .one (.c (.d (.int .i64 1)))), (6, .one (.agg [.d (.int .i64 r14_0.1), .d (.int .i64 r14_0.2.1), .d (.int .i64 r14_0.2.2.1), .d (.int .i64 r14_0.2.2.2.1), .d (.int .i64 r14_0.2.2.2.2.1), .d (.int .i64 r14_0.2.2.2.2.2.1), .d (.int .i64 r14_0.2.2.2.2.2.2.1), .d (.int .i64 r14_0.2.2.2.2.2.2.2)])), (7, .one (.c (.d (.int .i64 0))))], [], [], 0⟩ [FnOK Go.Proofs.Try.prog 76 (f76_cookie_sizes_in) (f76_cookie_sizes_out r14_0)] (by kernel_rfl) ⟨(f76_cookie_sizes_ok r14_0 cr14_0), trivial⟩ ?_
  obtain ⟨w23, cw23, h⟩ := bindS h
  refine f17_cookie_Size_L3_ok n mss 1 r14_0.1 r14_0.2.1 r14_0.2.2.1 r14_0.2.2.2.1 r14_0.2.2.2.2.1 r14_0.2.2.2.2.2.1 r14_0.2.2.2.2.2.2.1 r14_0.2.2.2.2.2.2.2 0 w23 cw23 _ ?_
  show At Go.Proofs.Try.prog Go.Proofs.Try.f17 0 8 ⟨[(3, .one (.c (.d (.int .i64 w23))))], [], [], 0⟩ _
  have h := Option.some.inj h
  subst h
  exact At.fin hm ht ⟨[], [], [], [2], []⟩ [] (by kernel_rfl) trivial
/-! brougham/cookie.index -/
def f77_cookie_index_in (size : Int) : Inn := ⟨[.c (.d (.int .i64 size))], [], [], 0⟩
def f77_cookie_index_out (r : Int) : Out := ⟨.one (.c (.d (.int .u32 r))), [], [], 0⟩
def f77_cookie_index_L2 : Nat → Int → Int → Int → Int → Int → Int → Int → Int → Int → Int → Option ((Int) ⊕ (Unit))
  | 0, _, _, _, _, _, _, _, _, _, _ => none
  | n + 1, size, t5_0, t5_1, t5_2, t5_3, t5_4, t5_5, t5_6, t5_7, t6 =>
    if (decide ((t6 : Int) < 8)) = true then
      if (0 : Int) ≤ t6 ∧ t6 < 8 then
      if (((([t5_0, t5_1, t5_2, t5_3, t5_4, t5_5, t5_6, t5_7] : List Int).getD t6.toNat 0) : Int) == size) = true then
        some (.inl (IntKind.wrap .u32 t6))
      else
        f77_cookie_index_L2 n size t5_0 t5_1 t5_2 t5_3 t5_4 t5_5 t5_6 t5_7 (IntKind.wrap .i64 (t6 + 1))
      else none
    else
      some (.inr ())
def f77_cookie_index_L2_k (w : (Int) ⊕ (Unit)) (o : Out) : Prop := match w with
  | .inl e => o = f77_cookie_index_out e
  | .inr e => At Go.Proofs.Try.prog Go.Proofs.Try.f77 0 7 ⟨[], [], [], 0⟩ o
theorem f77_cookie_index_L2_ok (n : Nat) : ∀ (size : Int) (t5_0 : Int) (t5_1 : Int) (t5_2 : Int) (t5_3 : Int) (t5_4 : Int) (t5_5 : Int) (t5_6 : Int) (t5_7 : Int) (t6 : Int) (w : (Int) ⊕ (Unit)) (h : f77_cookie_index_L2 n size t5_0 t5_1 t5_2 t5_3 t5_4 t5_5 t5_6 t5_7 t6 = some w) (o : Out) (hk : f77_cookie_index_L2_k w o), At Go.Proofs.Try.prog Go.Proofs.Try.f77 0 2 ⟨[(0, .one (.c (.d (.int .i64 size)))), (5, .one (.agg [.d (.int .i64 t5_0), .d (.int .i64 t5_1), .d (.int .i64 t5_2), .d (.int .i64 t5_3), .d (.int .i64 t5_4), .d (.int .i64 t5_5), .d (.int .i64 t5_6), .d (.int .i64 t5_7)])), (6, .one (.c (.d (.int .i64 t6))))], [], [], 0⟩ o := by
  induction n with
  | zero => intro size t5_0 t5_1 t5_2 t5_3 t5_4 t5_5 t5_6 t5_7 t6 w h; rw [f77_cookie_index_L2] at h; cases h
  | succ n ih =>
    intro size t5_0 t5_1 t5_2 t5_3 t5_4 t5_5 t5_6 t5_7 t6 w h o hk
    rw [f77_cookie_index_L2] at h
    rcases iteS h with ⟨b28_e0, h⟩ | ⟨b28_e0, h⟩
    · refine At.step hm ht ⟨[], [true], [], [0, 5, 6], []⟩ 3 ⟨[(0, .one (.c (.d (.int .i64 size)))), (5, .one (.agg [.d (.int .i64 t5_0), .d (.int .i64 t5_1), .d (.int .i64 t5_2), .d (.int .i64 t5_3), .d (.int .i64 t5_4), .d (.int .i64 t5_5), .d (.int .i64 t5_6), .d (.int .i64 t5_7)])), (6, .one (.c (.d (.int .i64 t6))))], [], [], 0⟩ [(decide ((t6 : Int) < 8)) = true] (by kernel_rfl) ⟨b28_e0, trivial⟩ ?_
      obtain ⟨g29_0, h⟩ := ifS h
      refine At.step hm ht ⟨[], [], [], [0, 3, 4, 5, 6], []⟩ 4 ⟨[(0, .one (.c (.d (.int .i64 size)))), (3, .one (.c (.d (.int .i64 t6)))), (4, .one (.c (.d (.int .i64 (([t5_0, t5_1, t5_2, t5_3, t5_4, t5_5, t5_6, t5_7] : List Int).getD t6.toNat 0))))), (5, .one (.agg [.d (.int .i64 t5_0), .d (.int .i64 t5_1), .d (.int .i64 t5_2), .d (.int .i64 t5_3), .d (.int .i64 t5_4), .d (.int .i64 t5_5), .d (.int .i64 t5_6), .d (.int .i64 t5_7)])), (6, .one (.c (.d (.int .i64 t6))))], [], [], 0⟩ [(0 : Int) ≤ t6 ∧ t6 < 8] (by kernel_rfl) ⟨g29_0, trivial⟩ ?_
      rcases iteS h with ⟨b30_e0, h⟩ | ⟨b30_e0, h⟩
      · refine At.step hm ht ⟨[], [true], [], [3], []⟩ 5 ⟨[(3, .one (.c (.d (.int .i64 t6))))], [], [], 0⟩ [(((([t5_0, t5_1, t5_2, t5_3, t5_4, t5_5, t5_6, t5_7] : List Int).getD t6.toNat 0) : Int) == size) = true] (by kernel_rfl) ⟨b30_e0, trivial⟩ ?_
        have h := Option.some.inj h
        subst h
        have hk : o = f77_cookie_index_out (IntKind.wrap .u32 t6) := hk
        subst hk
        exact At.fin hm ht ⟨[], [], [], [2], []⟩ [] (by kernel_rfl) trivial
      · refine At.step hm ht ⟨[], [false], [], [0, 5, 6], []⟩ 6 ⟨[(0, .one (.c (.d (.int .i64 size)))), (5, .one (.agg [.d (.int .i64 t5_0), .d (.int .i64 t5_1), .d (.int .i64 t5_2), .d (.int .i64 t5_3), .d (.int .i64 t5_4), .d (.int .i64 t5_5), .d (.int .i64 t5_6), .d (.int .i64 t5_7)])), (6, .one (.c (.d (.int .i64 t6))))], [], [], 0⟩ [(((([t5_0, t5_1, t5_2, t5_3, t5_4, t5_5, t5_6, t5_7] : List Int).getD t6.toNat 0) : Int) == size) = false] (by kernel_rfl) ⟨b30_e0, trivial⟩ ?_
        refine At.step hm ht ⟨[], [], [], [0, 5, 6], []⟩ 2 ⟨[(0, .one (.c (.d (.int .i64 size)))), (5, .one (.agg [.d (.int .i64 t5_0), .d (.int .i64 t5_1), .d (.int .i64 t5_2), .d (.int .i64 t5_3), .d (.int .i64 t5_4), .d (.int .i64 t5_5), .d (.int .i64 t5_6), .d (.int .i64 t5_7)])), (6, .one (.c (.d (.int .i64 (IntKind.wrap .i64 (t6 + 1))))))], [], [], 0⟩ [] (by kernel_rfl) trivial ?_
        exact ih size t5_0 t5_1 t5_2 t5_3 t5_4 t5_5 t5_6 t5_7 (IntKind.wrap .i64 (t6 + 1)) w h o hk
    · refine At.step hm ht ⟨[], [false], [], [], []⟩ 7 ⟨[], [], [], 0⟩ [(decide ((t6 : Int) < 8)) = false] (by kernel_rfl) ⟨b28_e0, trivial⟩ ?_
      have h := Option.some.inj h
      subst h
      exact hk
def f77_cookie_index (n : Nat) (size : Int) : Option (Int) :=
  (f76_cookie_sizes).bind fun r27_0 =>
  (f77_cookie_index_L2 n size r27_0.1 r27_0.2.1 r27_0.2.2.1 r27_0.2.2.2.1 r27_0.2.2.2.2.1 r27_0.2.2.2.2.2.1 r27_0.2.2.2.2.2.2.1 r27_0.2.2.2.2.2.2.2 0).bind fun w33 =>
  match w33 with
  | .inl e34 =>
    some e34
  | .inr e35 =>
    some 0
theorem f77_cookie_index_ok (n : Nat) (size : Int) (r : Int) (h : f77_cookie_index n size = some r) : FnOK Go.Proofs.Try.prog 77 (f77_cookie_index_in size) (f77_cookie_index_out r) := by
  unfold f77_cookie_index at h
  refine At.fn (r := 0) Go.Proofs.Try.func77 rfl (by kernel_rfl) rfl rfl (by kernel_rfl) ?_
  show At Go.Proofs.Try.prog Go.Proofs.Try.f77 0 0 ⟨[(0, .one (.c (.d (.int .i64 size))))], [], [], 0⟩ _
  refine At.step hm ht ⟨[], [], [], [0], []⟩ 1 ⟨[(0, .one (.c (.d (.int .i64 size))))], [], [], 0⟩ [] (by kernel_rfl) trivial ?_
  obtain ⟨r27_0, cr27_0, h⟩ := bindS h
  refine At.step hm ht ⟨[(0, .call [] [] (f76_cookie_sizes_out r27_0))], [], [], [0, 5, 6], []⟩ 2 ⟨[(0, .one (.c (.d (.int .i64 size)))), (5, .one (.agg [.d (.int .i64 r27_0.1), .d (.int .i64 r27_0.2.1), .d (.int .i64 r27_0.2.2.1), .d (.int .i64 r27_0.2.2.2.1), .d (.int .i64 r27_0.2.2.2.2.1), .d (.int .i64 r27_0.2.2.2.2.2.1), .d (.int .i64 r27_0.2.2.2.2.2.2.1), .d (.int .i64 r27_0.2.2.2.2.2.2.2)])), (6, .one (.c (.d (.int .i64 0))))], [], [], 0⟩ [FnOK Go.Proofs.Try.prog 76 (f76_cookie_sizes_in) (f76_cookie_sizes_out r27_0)] (by kernel_rfl) ⟨(f76_cookie_sizes_ok r27_0 cr27_0), trivial⟩ ?_
  obtain ⟨w33, cw33, h⟩ := bindS h
  refine f77_cookie_index_L2_ok n size r27_0.1 r27_0.2.1 r27_0.2.2.1 r27_0.2.2.2.1 r27_0.2.2.2.2.1 r27_0.2.2.2.2.2.1 r27_0.2.2.2.2.2.2.1 r27_0.2.2.2.2.2.2.2 0 w33 cw33 _ ?_
  rcases w33 with e34 | e35
  · have h := Option.some.inj h
    subst h
    rfl
  · show At Go.Proofs.Try.prog Go.Proofs.Try.f77 0 7 ⟨[], [], [], 0⟩ _
    have h := Option.some.inj h
    subst h
    exact At.fin hm ht ⟨[], [], [], [2], []⟩ [] (by kernel_rfl) trivial
/-! brougham/pack.W -/
def f79_pack_W_in (n_ : Int) : Inn := ⟨[.c (.d (.int .u32 n_))], [], [], 0⟩
def f79_pack_W_out (r : Int × Int) : Out := ⟨.one (.agg [.d (.int .i64 r.1), .d (.int .u64 r.2)]), [], [(0, [.d (.int .i64 r.1), .d (.int .u64 r.2)])], 1⟩
def f79_pack_W (n_ : Int) : Option (Int × Int) :=
  some (4, (IntKind.wrap .u64 n_))
theorem f79_pack_W_ok (n_ : Int) (r : Int × Int) (h : f79_pack_W n_ = some r) : FnOK Go.Proofs.Try.prog 79 (f79_pack_W_in n_) (f79_pack_W_out r) := by
  unfold f79_pack_W at h
  refine At.fn (r := 0) Go.Proofs.Try.func79 rfl (by kernel_rfl) rfl rfl (by kernel_rfl) ?_
  show At Go.Proofs.Try.prog Go.Proofs.Try.f79 0 0 ⟨[(0, .one (.c (.d (.int .u32 n_))))], [], [], 0⟩ _
  refine At.step hm ht ⟨[], [], [], [0, 2], [0]⟩ 1 ⟨[(0, .one (.c (.d (.int .u32 n_)))), (2, .one (.c (.ptr 0 0)))], [], [(0, [.d (.int .i64 0), .d (.int .u64 0)])], 1⟩ [] (by kernel_rfl) trivial ?_
  have h := Option.some.inj h
  subst h
  exact At.fin hm ht ⟨[], [], [], [2], [0]⟩ [0 + 2 ≤ 2] (by kernel_rfl) ⟨(by decide), trivial⟩
/-! brougham/pack.H -/
def f80_pack_H_in (n_ : Int) : Inn := ⟨[.c (.d (.int .u16 n_))], [], [], 0⟩
def f80_pack_H_out (r : Int × Int) : Out := ⟨.one (.agg [.d (.int .i64 r.1), .d (.int .u64 r.2)]), [], [(0, [.d (.int .i64 r.1), .d (.int .u64 r.2)])], 1⟩
def f80_pack_H (n_ : Int) : Option (Int × Int) :=
  some (2, (IntKind.wrap .u64 n_))
theorem f80_pack_H_ok (n_ : Int) (r : Int × Int) (h : f80_pack_H n_ = some r) : FnOK Go.Proofs.Try.prog 80 (f80_pack_H_in n_) (f80_pack_H_out r) := by
  unfold f80_pack_H at h
  refine At.fn (r := 0) Go.Proofs.Try.func80 rfl (by kernel_rfl) rfl rfl (by kernel_rfl) ?_
  show At Go.Proofs.Try.prog Go.Proofs.Try.f80 0 0 ⟨[(0, .one (.c (.d (.int .u16 n_))))], [], [], 0⟩ _
  refine At.step hm ht ⟨[], [], [], [0, 2], [0]⟩ 1 ⟨[(0, .one (.c (.d (.int .u16 n_)))), (2, .one (.c (.ptr 0 0)))], [], [(0, [.d (.int .i64 0), .d (.int .u64 0)])], 1⟩ [] (by kernel_rfl) trivial ?_
  have h := Option.some.inj h
  subst h
  exact At.fin hm ht ⟨[], [], [], [2], [0]⟩ [0 + 2 ≤ 2] (by kernel_rfl) ⟨(by decide), trivial⟩
/-! brougham/pack.Put -/
def f78_pack_Put_in (b : List Int) (l : List (Int × Int)) : Inn := ⟨[.c (.d (.sl (.int .u8) b)), .c (.d (.sl (.pair (.int .i64) (.int .u64)) l))], [], [], 0⟩
def f78_pack_Put_out (r : List Int) : Out := ⟨.one (.c (.own 0 (.int .u8) r)), [(0, ⟨5, 0⟩)], [], 1⟩
def f78_pack_Put_L7 : Nat → (List Int) → Int → (List (Int × Int)) → Int → Int → Int → Int → Option (List Int × (List (Int × Int)) × Int × Int)
  | 0, _, _, _, _, _, _, _ => none
  | n + 1, out, i, t11, t12, t13, f_0, f_1 =>
    if (decide ((i : Int) ≥ 0)) = true then
      if (0 : Int) ≤ (IntKind.wrap .i64 (8 * i)) then
      if out.length + [(IntKind.wrap .u8 (Int.fdiv f_1 (2 ^ (min (IntKind.wrap .i64 (8 * i)).toNat (IntKind.bits .u64)))))].length ≤ maxLen ∧ (out.length + [(IntKind.wrap .u8 (Int.fdiv f_1 (2 ^ (min (IntKind.wrap .i64 (8 * i)).toNat (IntKind.bits .u64)))))].length) * 1 ≤ 140737488355328 then
      f78_pack_Put_L7 n (out ++ [(IntKind.wrap .u8 (Int.fdiv f_1 (2 ^ (min (IntKind.wrap .i64 (8 * i)).toNat (IntKind.bits .u64)))))]) (IntKind.wrap .i64 (i - 1)) t11 t12 t13 f_0 f_1
      else none
      else none
    else
      some ((out, t11, t12, t13))
def f78_pack_Put_L7_k (e : List Int × (List (Int × Int)) × Int × Int) (o : Out) : Prop := At Go.Proofs.Try.prog Go.Proofs.Try.f78 0 10 ⟨[(5, .one (.c (.own 0 (.int .u8) e.1))), (11, .one (.c (.d (.sl (.pair (.int .i64) (.int .u64)) e.2.1)))), (12, .one (.c (.d (.int .i64 e.2.2.1)))), (13, .one (.c (.d (.int .i64 e.2.2.2))))], [(0, some ⟨5, 0⟩)], [], 1⟩ o
theorem f78_pack_Put_L7_ok (n : Nat) : ∀ (out : List Int) (i : Int) (t11 : List (Int × Int)) (t12 : Int) (t13 : Int) (f_0 : Int) (f_1 : Int) (w : List Int × (List (Int × Int)) × Int × Int) (h : f78_pack_Put_L7 n out i t11 t12 t13 f_0 f_1 = some w) (o : Out) (hk : f78_pack_Put_L7_k w o), At Go.Proofs.Try.prog Go.Proofs.Try.f78 0 7 ⟨[(5, .one (.c (.own 0 (.int .u8) out))), (7, .one (.c (.ptr 1 0))), (8, .one (.c (.d (.int .i64 i)))), (11, .one (.c (.d (.sl (.pair (.int .i64) (.int .u64)) t11)))), (12, .one (.c (.d (.int .i64 t12)))), (13, .one (.c (.d (.int .i64 t13))))], [(0, some ⟨5, 0⟩)], [(1, [.d (.int .i64 f_0), .d (.int .u64 f_1)])], 2⟩ o := by
  induction n with
  | zero => intro out i t11 t12 t13 f_0 f_1 w h; rw [f78_pack_Put_L7] at h; cases h
  | succ n ih =>
    intro out i t11 t12 t13 f_0 f_1 w h o hk
    rw [f78_pack_Put_L7] at h
    rcases iteS h with ⟨b53_e0, h⟩ | ⟨b53_e0, h⟩
    · refine At.step hm ht ⟨[], [true], [], [5, 7, 8, 11, 12, 13], [0, 1]⟩ 9 ⟨[(5, .one (.c (.own 0 (.int .u8) out))), (7, .one (.c (.ptr 1 0))), (8, .one (.c (.d (.int .i64 i)))), (11, .one (.c (.d (.sl (.pair (.int .i64) (.int .u64)) t11)))), (12, .one (.c (.d (.int .i64 t12)))), (13, .one (.c (.d (.int .i64 t13))))], [(0, some ⟨5, 0⟩)], [(1, [.d (.int .i64 f_0), .d (.int .u64 f_1)])], 2⟩ [(decide ((i : Int) ≥ 0)) = true] (by kernel_rfl) ⟨b53_e0, trivial⟩ ?_
      obtain ⟨g54_0, h⟩ := ifS h
      obtain ⟨g54_1, h⟩ := ifS h
      refine At.step hm ht ⟨[], [], [], [5, 7, 8, 11, 12, 13], [10, 1]⟩ 8 ⟨[(5, .one (.c (.own 0 (.int .u8) (out ++ [(IntKind.wrap .u8 (Int.fdiv f_1 (2 ^ (min (IntKind.wrap .i64 (8 * i)).toNat (IntKind.bits .u64)))))])))), (7, .one (.c (.ptr 1 0))), (8, .one (.c (.d (.int .i64 i)))), (11, .one (.c (.d (.sl (.pair (.int .i64) (.int .u64)) t11)))), (12, .one (.c (.d (.int .i64 t12)))), (13, .one (.c (.d (.int .i64 t13))))], [(0, some ⟨5, 0⟩)], [(1, [.d (.int .i64 f_0), .d (.int .u64 f_1)])], 2⟩ [(0 : Int) ≤ (IntKind.wrap .i64 (8 * i)), out.length + [(IntKind.wrap .u8 (Int.fdiv f_1 (2 ^ (min (IntKind.wrap .i64 (8 * i)).toNat (IntKind.bits .u64)))))].length ≤ maxLen ∧ (out.length + [(IntKind.wrap .u8 (Int.fdiv f_1 (2 ^ (min (IntKind.wrap .i64 (8 * i)).toNat (IntKind.bits .u64)))))].length) * 1 ≤ 140737488355328] (by kernel_rfl) ⟨g54_0, g54_1, trivial⟩ ?_
      refine At.step hm ht ⟨[], [], [], [5, 7, 8, 11, 12, 13], [0, 1]⟩ 7 ⟨[(5, .one (.c (.own 0 (.int .u8) (out ++ [(IntKind.wrap .u8 (Int.fdiv f_1 (2 ^ (min (IntKind.wrap .i64 (8 * i)).toNat (IntKind.bits .u64)))))])))), (7, .one (.c (.ptr 1 0))), (8, .one (.c (.d (.int .i64 (IntKind.wrap .i64 (i - 1)))))), (11, .one (.c (.d (.sl (.pair (.int .i64) (.int .u64)) t11)))), (12, .one (.c (.d (.int .i64 t12)))), (13, .one (.c (.d (.int .i64 t13))))], [(0, some ⟨5, 0⟩)], [(1, [.d (.int .i64 f_0), .d (.int .u64 f_1)])], 2⟩ [] (by kernel_rfl) trivial ?_
      exact ih (out ++ [(IntKind.wrap .u8 (Int.fdiv f_1 (2 ^ (min (IntKind.wrap .i64 (8 * i)).toNat (IntKind.bits .u64)))))]) (IntKind.wrap .i64 (i - 1)) t11 t12 t13 f_0 f_1 w h o hk
    · refine At.step hm ht ⟨[], [false], [], [5, 11, 12, 13], [0]⟩ 10 ⟨[(5, .one (.c (.own 0 (.int .u8) out))), (11, .one (.c (.d (.sl (.pair (.int .i64) (.int .u64)) t11)))), (12, .one (.c (.d (.int .i64 t12)))), (13, .one (.c (.d (.int .i64 t13))))], [(0, some ⟨5, 0⟩)], [], 1⟩ [(decide ((i : Int) ≥ 0)) = false] (by kernel_rfl) ⟨b53_e0, trivial⟩ ?_
      have h := Option.some.inj h
      subst h
      exact hk
def f78_pack_Put_L3 : Nat → (List Int) → (List (Int × Int)) → Int → Int → Option (List Int)
  | 0, _, _, _, _ => none
  | n + 1, out, t11, t12, t13 =>
    if (decide ((t13 : Int) < t12)) = true then
      if (0 : Int) ≤ t13 ∧ t13 < (((t11).length : Nat) : Int) then
      if (decide ((((t11.getD t13.toNat (0, 0)).1) : Int) < 1)) = true then
        f78_pack_Put_L3 n out t11 t12 (IntKind.wrap .i64 (t13 + 1))
      else
        if (decide ((((t11.getD t13.toNat (0, 0)).1) : Int) > 8)) = true then
          f78_pack_Put_L3 n out t11 t12 (IntKind.wrap .i64 (t13 + 1))
        else
          (f78_pack_Put_L7 n out (IntKind.wrap .i64 (((t11.getD t13.toNat (0, 0)).1) - 1)) t11 t12 t13 ((t11.getD t13.toNat (0, 0)).1) ((t11.getD t13.toNat (0, 0)).2)).bind fun w56 =>
          f78_pack_Put_L3 n w56.1 w56.2.1 w56.2.2.1 (IntKind.wrap .i64 (w56.2.2.2 + 1))
      else none
    else
      some (out)
def f78_pack_Put_L3_k (e : List Int) (o : Out) : Prop := At Go.Proofs.Try.prog Go.Proofs.Try.f78 0 11 ⟨[(5, .one (.c (.own 0 (.int .u8) e)))], [(0, some ⟨5, 0⟩)], [], 1⟩ o
theorem f78_pack_Put_L3_ok (n : Nat) : ∀ (out : List Int) (t11 : List (Int × Int)) (t12 : Int) (t13 : Int) (w : List Int) (h : f78_pack_Put_L3 n out t11 t12 t13 = some w) (o : Out) (hk : f78_pack_Put_L3_k w o), At Go.Proofs.Try.prog Go.Proofs.Try.f78 0 3 ⟨[(5, .one (.c (.own 0 (.int .u8) out))), (11, .one (.c (.d (.sl (.pair (.int .i64) (.int .u64)) t11)))), (12, .one (.c (.d (.int .i64 t12)))), (13, .one (.c (.d (.int .i64 t13))))], [(0, some ⟨5, 0⟩)], [], 1⟩ o := by
  induction n with
  | zero => intro out t11 t12 t13 w h; rw [f78_pack_Put_L3] at h; cases h
  | succ n ih =>
    intro out t11 t12 t13 w h o hk
    rw [f78_pack_Put_L3] at h
    rcases iteS h with ⟨b47_e0, h⟩ | ⟨b47_e0, h⟩
    · refine At.step hm ht ⟨[], [true], [], [5, 11, 12, 13], [0]⟩ 4 ⟨[(5, .one (.c (.own 0 (.int .u8) out))), (11, .one (.c (.d (.sl (.pair (.int .i64) (.int .u64)) t11)))), (12, .one (.c (.d (.int .i64 t12)))), (13, .one (.c (.d (.int .i64 t13))))], [(0, some ⟨5, 0⟩)], [], 1⟩ [(decide ((t13 : Int) < t12)) = true] (by kernel_rfl) ⟨b47_e0, trivial⟩ ?_
      obtain ⟨g48_0, h⟩ := ifS h
      refine At.step hm ht ⟨[], [], [], [5, 7, 11, 12, 13], [0, 3]⟩ 5 ⟨[(5, .one (.c (.own 0 (.int .u8) out))), (7, .one (.c (.ptr 1 0))), (11, .one (.c (.d (.sl (.pair (.int .i64) (.int .u64)) t11)))), (12, .one (.c (.d (.int .i64 t12)))), (13, .one (.c (.d (.int .i64 t13))))], [(0, some ⟨5, 0⟩)], [(1, [.d (.int .i64 ((t11.getD t13.toNat (0, 0)).1)), .d (.int .u64 ((t11.getD t13.toNat (0, 0)).2))])], 2⟩ [(0 : Int) ≤ t13 ∧ t13 < (((t11).length : Nat) : Int), 0 + 2 ≤ 2] (by kernel_rfl) ⟨g48_0, (by decide), trivial⟩ ?_
      rcases iteS h with ⟨b49_3, h⟩ | ⟨b49_3, h⟩
      · refine At.step hm ht ⟨[(3, .b true)], [true], [], [5, 11, 12, 13], [0]⟩ 10 ⟨[(5, .one (.c (.own 0 (.int .u8) out))), (11, .one (.c (.d (.sl (.pair (.int .i64) (.int .u64)) t11)))), (12, .one (.c (.d (.int .i64 t12)))), (13, .one (.c (.d (.int .i64 t13))))], [(0, some ⟨5, 0⟩)], [], 1⟩ [(decide ((((t11.getD t13.toNat (0, 0)).1) : Int) < 1)) = true, true = true] (by kernel_rfl) ⟨b49_3, rfl, trivial⟩ ?_
        refine At.step hm ht ⟨[], [], [], [5, 11, 12, 13], [0]⟩ 3 ⟨[(5, .one (.c (.own 0 (.int .u8) out))), (11, .one (.c (.d (.sl (.pair (.int .i64) (.int .u64)) t11)))), (12, .one (.c (.d (.int .i64 t12)))), (13, .one (.c (.d (.int .i64 (IntKind.wrap .i64 (t13 + 1))))))], [(0, some ⟨5, 0⟩)], [], 1⟩ [] (by kernel_rfl) trivial ?_
        exact ih out t11 t12 (IntKind.wrap .i64 (t13 + 1)) w h o hk
      · rcases iteS h with ⟨b49_e0, h⟩ | ⟨b49_e0, h⟩
        · refine At.step hm ht ⟨[(3, .b false)], [true], [], [5, 11, 12, 13], [0]⟩ 10 ⟨[(5, .one (.c (.own 0 (.int .u8) out))), (11, .one (.c (.d (.sl (.pair (.int .i64) (.int .u64)) t11)))), (12, .one (.c (.d (.int .i64 t12)))), (13, .one (.c (.d (.int .i64 t13))))], [(0, some ⟨5, 0⟩)], [], 1⟩ [(decide ((((t11.getD t13.toNat (0, 0)).1) : Int) < 1)) = false, (decide ((((t11.getD t13.toNat (0, 0)).1) : Int) > 8)) = true] (by kernel_rfl) ⟨b49_3, b49_e0, trivial⟩ ?_
          refine At.step hm ht ⟨[], [], [], [5, 11, 12, 13], [0]⟩ 3 ⟨[(5, .one (.c (.own 0 (.int .u8) out))), (11, .one (.c (.d (.sl (.pair (.int .i64) (.int .u64)) t11)))), (12, .one (.c (.d (.int .i64 t12)))), (13, .one (.c (.d (.int .i64 (IntKind.wrap .i64 (t13 + 1))))))], [(0, some ⟨5, 0⟩)], [], 1⟩ [] (by kernel_rfl) trivial ?_
          exact ih out t11 t12 (IntKind.wrap .i64 (t13 + 1)) w h o hk
        · refine At.step hm ht ⟨[(3, .b false)], [false], [], [5, 7, 11, 12, 13], [0, 1]⟩ 6 ⟨[(5, .one (.c (.own 0 (.int .u8) out))), (7, .one (.c (.ptr 1 0))), (11, .one (.c (.d (.sl (.pair (.int .i64) (.int .u64)) t11)))), (12, .one (.c (.d (.int .i64 t12)))), (13, .one (.c (.d (.int .i64 t13))))], [(0, some ⟨5, 0⟩)], [(1, [.d (.int .i64 ((t11.getD t13.toNat (0, 0)).1)), .d (.int .u64 ((t11.getD t13.toNat (0, 0)).2))])], 2⟩ [(decide ((((t11.getD t13.toNat (0, 0)).1) : Int) < 1)) = false, (decide ((((t11.getD t13.toNat (0, 0)).1) : Int) > 8)) = false] (by kernel_rfl) ⟨b49_3, b49_e0, trivial⟩ ?_
          refine At.step hm ht ⟨[], [], [], [5, 7, 8, 11, 12, 13], [0, 1]⟩ 7 ⟨[(5, .one (.c (.own 0 (.int .u8) out))), (7, .one (.c (.ptr 1 0))), (8, .one (.c (.d (.int .i64 (IntKind.wrap .i64 (((t11.getD t13.toNat (0, 0)).1) - 1)))))), (11, .one (.c (.d (.sl (.pair (.int .i64) (.int .u64)) t11)))), (12, .one (.c (.d (.int .i64 t12)))), (13, .one (.c (.d (.int .i64 t13))))], [(0, some ⟨5, 0⟩)], [(1, [.d (.int .i64 ((t11.getD t13.toNat (0, 0)).1)), .d (.int .u64 ((t11.getD t13.toNat (0, 0)).2))])], 2⟩ [] (by kernel_rfl) trivial ?_
          obtain ⟨w56, cw56, h⟩ := bindS h
          refine f78_pack_Put_L7_ok n out (IntKind.wrap .i64 (((t11.getD t13.toNat (0, 0)).1) - 1)) t11 t12 t13 ((t11.getD t13.toNat (0, 0)).1) ((t11.getD t13.toNat (0, 0)).2) w56 cw56 _ ?_
          show At Go.Proofs.Try.prog Go.Proofs.Try.f78 0 10 ⟨[(5, .one (.c (.own 0 (.int .u8) w56.1))), (11, .one (.c (.d (.sl (.pair (.int .i64) (.int .u64)) w56.2.1)))), (12, .one (.c (.d (.int .i64 w56.2.2.1)))), (13, .one (.c (.d (.int .i64 w56.2.2.2))))], [(0, some ⟨5, 0⟩)], [], 1⟩ _
          refine At.step hm ht ⟨[], [], [], [5, 11, 12, 13], [0]⟩ 3 ⟨[(5, .one (.c (.own 0 (.int .u8) w56.1))), (11, .one (.c (.d (.sl (.pair (.int .i64) (.int .u64)) w56.2.1)))), (12, .one (.c (.d (.int .i64 w56.2.2.1)))), (13, .one (.c (.d (.int .i64 (IntKind.wrap .i64 (w56.2.2.2 + 1))))))], [(0, some ⟨5, 0⟩)], [], 1⟩ [] (by kernel_rfl) trivial ?_
          exact ih w56.1 w56.2.1 w56.2.2.1 (IntKind.wrap .i64 (w56.2.2.2 + 1)) w h o hk
    · refine At.step hm ht ⟨[], [false], [], [5], [0]⟩ 11 ⟨[(5, .one (.c (.own 0 (.int .u8) out)))], [(0, some ⟨5, 0⟩)], [], 1⟩ [(decide ((t13 : Int) < t12)) = false] (by kernel_rfl) ⟨b47_e0, trivial⟩ ?_
      have h := Option.some.inj h
      subst h
      exact hk
def f78_pack_Put (n : Nat) (b : List Int) (l : List (Int × Int)) : Option (List Int) :=
  if b.length ≤ maxLen ∧ b.length * 1 ≤ 140737488355328 then
  (f78_pack_Put_L3 n b l ((l.length : Nat) : Int) 0).bind fun w59 =>
  some w59
  else none
theorem f78_pack_Put_ok (n : Nat) (b : List Int) (l : List (Int × Int)) (r : List Int) (h : f78_pack_Put n b l = some r) : FnOK Go.Proofs.Try.prog 78 (f78_pack_Put_in b l) (f78_pack_Put_out r) := by
  unfold f78_pack_Put at h
  refine At.fn (r := 0) Go.Proofs.Try.func78 rfl (by kernel_rfl) rfl rfl (by kernel_rfl) ?_
  show At Go.Proofs.Try.prog Go.Proofs.Try.f78 0 0 ⟨[(0, .one (.c (.d (.sl (.int .u8) b)))), (1, .one (.c (.d (.sl (.pair (.int .i64) (.int .u64)) l))))], [], [], 0⟩ _
  refine At.step hm ht ⟨[], [], [], [0, 1], []⟩ 1 ⟨[(0, .one (.c (.d (.sl (.int .u8) b)))), (1, .one (.c (.d (.sl (.pair (.int .i64) (.int .u64)) l))))], [], [], 0⟩ [] (by kernel_rfl) trivial ?_
  obtain ⟨g45_0, h⟩ := ifS h
  refine At.step hm ht ⟨[], [], [], [1, 5], [1]⟩ 2 ⟨[(1, .one (.c (.d (.sl (.pair (.int .i64) (.int .u64)) l)))), (5, .one (.c (.own 0 (.int .u8) b)))], [(0, some ⟨5, 0⟩)], [], 1⟩ [b.length ≤ maxLen ∧ b.length * 1 ≤ 140737488355328] (by kernel_rfl) ⟨g45_0, trivial⟩ ?_
  refine At.step hm ht ⟨[], [], [], [5, 11, 12, 13], [0]⟩ 3 ⟨[(5, .one (.c (.own 0 (.int .u8) b))), (11, .one (.c (.d (.sl (.pair (.int .i64) (.int .u64)) l)))), (12, .one (.c (.d (.int .i64 ((l.length : Nat) : Int))))), (13, .one (.c (.d (.int .i64 0))))], [(0, some ⟨5, 0⟩)], [], 1⟩ [] (by kernel_rfl) trivial ?_
  obtain ⟨w59, cw59, h⟩ := bindS h
  refine f78_pack_Put_L3_ok n b l ((l.length : Nat) : Int) 0 w59 cw59 _ ?_
  show At Go.Proofs.Try.prog Go.Proofs.Try.f78 0 11 ⟨[(5, .one (.c (.own 0 (.int .u8) w59)))], [(0, some ⟨5, 0⟩)], [], 1⟩ _
  have h := Option.some.inj h
  subst h
  exact At.fin hm ht ⟨[], [], [], [4], [0]⟩ [] (by kernel_rfl) trivial
/-! brougham/sip.begin -/
def f135_sip_begin_in (k_0 : Int) (k_1 : Int) : Inn := ⟨[.agg [.d (.int .u64 k_0), .d (.int .u64 k_1)]], [], [], 0⟩
def f135_sip_begin_out (r : Int × Int × Int × Int × Int × Int) : Out := ⟨.one (.c (.ptr 0 0)), [], [(0, [.d (.int .u64 r.1), .d (.int .u64 r.2.1), .d (.int .u64 r.2.2.1), .d (.int .u64 r.2.2.2.1), .d (.int .u64 r.2.2.2.2.1), .d (.int .i64 r.2.2.2.2.2)])], 1⟩
def f135_sip_begin (k_0 : Int) (k_1 : Int) : Option (Int × Int × Int × Int × Int × Int) :=
  some ((bits .xor .u64 k_0 8317987319222330741), (bits .xor .u64 k_1 7237128888997146477), (bits .xor .u64 k_0 7816392313619706465), (bits .xor .u64 k_1 8387220255154660723), 0, 0)
theorem f135_sip_begin_ok (k_0 : Int) (k_1 : Int) (r : Int × Int × Int × Int × Int × Int) (h : f135_sip_begin k_0 k_1 = some r) : FnOK Go.Proofs.Try.prog 135 (f135_sip_begin_in k_0 k_1) (f135_sip_begin_out r) := by
  unfold f135_sip_begin at h
  refine At.fn (r := 0) Go.Proofs.Try.func135 rfl (by kernel_rfl) rfl rfl (by kernel_rfl) ?_
  show At Go.Proofs.Try.prog Go.Proofs.Try.f135 0 0 ⟨[(0, .one (.agg [.d (.int .u64 k_0), .d (.int .u64 k_1)]))], [], [], 0⟩ _
  refine At.step hm ht ⟨[], [], [], [1], [0]⟩ 1 ⟨[(1, .one (.c (.ptr 0 0)))], [], [(0, [.d (.int .u64 k_0), .d (.int .u64 k_1)])], 1⟩ [] (by kernel_rfl) trivial ?_
  have h := Option.some.inj h
  subst h
  exact At.fin hm ht ⟨[], [], [], [2], [15]⟩ [] (by kernel_rfl) trivial
/-! math/bits.RotateLeft64 -/
def f145_bits_RotateLeft64_in (x : Int) (k : Int) : Inn := ⟨[.c (.d (.int .u64 x)), .c (.d (.int .i64 k))], [], [], 0⟩
def f145_bits_RotateLeft64_out (r : Int) : Out := ⟨.one (.c (.d (.int .u64 r))), [], [], 0⟩
def f145_bits_RotateLeft64 (x : Int) (k : Int) : Option (Int) :=
  if (0 : Int) ≤ (bits .and .u64 (IntKind.wrap .u64 k) 63) then
  if (0 : Int) ≤ (IntKind.wrap .u64 (64 - (bits .and .u64 (IntKind.wrap .u64 k) 63))) then
  some (bits .or .u64 (IntKind.wrap .u64 (x * 2 ^ (min (bits .and .u64 (IntKind.wrap .u64 k) 63).toNat (IntKind.bits .u64)))) (Int.fdiv x (2 ^ (min (IntKind.wrap .u64 (64 - (bits .and .u64 (IntKind.wrap .u64 k) 63))).toNat (IntKind.bits .u64)))))
  else none
  else none
theorem f145_bits_RotateLeft64_ok (x : Int) (k : Int) (r : Int) (h : f145_bits_RotateLeft64 x k = some r) : FnOK Go.Proofs.Try.prog 145 (f145_bits_RotateLeft64_in x k) (f145_bits_RotateLeft64_out r) := by
  unfold f145_bits_RotateLeft64 at h
  refine At.fn (r := 0) Go.Proofs.Try.func145 rfl (by kernel_rfl) rfl rfl (by kernel_rfl) ?_
  show At Go.Proofs.Try.prog Go.Proofs.Try.f145 0 0 ⟨[(0, .one (.c (.d (.int .u64 x)))), (1, .one (.c (.d (.int .i64 k))))], [], [], 0⟩ _
  refine At.step hm ht ⟨[], [], [], [0, 1], []⟩ 1 ⟨[(0, .one (.c (.d (.int .u64 x)))), (1, .one (.c (.d (.int .i64 k))))], [], [], 0⟩ [] (by kernel_rfl) trivial ?_
  refine At.step hm ht ⟨[], [], [], [0, 5], []⟩ 2 ⟨[(0, .one (.c (.d (.int .u64 x)))), (5, .one (.c (.d (.int .u64 (bits .and .u64 (IntKind.wrap .u64 k) 63)))))], [], [], 0⟩ [] (by kernel_rfl) trivial ?_
  obtain ⟨g86_0, h⟩ := ifS h
  obtain ⟨g86_1, h⟩ := ifS h
  have h := Option.some.inj h
  subst h
  exact At.fin hm ht ⟨[], [], [], [4], []⟩ [(0 : Int) ≤ (bits .and .u64 (IntKind.wrap .u64 k) 63), (0 : Int) ≤ (IntKind.wrap .u64 (64 - (bits .and .u64 (IntKind.wrap .u64 k) 63)))] (by kernel_rfl) ⟨g86_0, g86_1, trivial⟩
/-! (*brougham/sip.state).round -/
def f142_sip_state_round_in (s_0 : Int) (s_1 : Int) (s_2 : Int) (s_3 : Int) (s_4 : Int) (s_5 : Int) : Inn := ⟨[.c (.ptr 0 0)], [], [(0, [.d (.int .u64 s_0), .d (.int .u64 s_1), .d (.int .u64 s_2), .d (.int .u64 s_3), .d (.int .u64 s_4), .d (.int .i64 s_5)])], 1⟩
def f142_sip_state_round_out (r : Int × Int × Int × Int × Int × Int) : Out := ⟨.tup [], [], [(0, [.d (.int .u64 r.1), .d (.int .u64 r.2.1), .d (.int .u64 r.2.2.1), .d (.int .u64 r.2.2.2.1), .d (.int .u64 r.2.2.2.2.1), .d (.int .i64 r.2.2.2.2.2)])], 1⟩
def f142_sip_state_round (s_0 : Int) (s_1 : Int) (s_2 : Int) (s_3 : Int) (s_4 : Int) (s_5 : Int) : Option (Int × Int × Int × Int × Int × Int) :=
  (f145_bits_RotateLeft64 s_1 13).bind fun r83_0 =>
  (f145_bits_RotateLeft64 s_3 16).bind fun r87_0 =>
  (f145_bits_RotateLeft64 (IntKind.wrap .u64 (s_0 + s_1)) 32).bind fun r88_0 =>
  (f145_bits_RotateLeft64 (bits .xor .u64 r83_0 (IntKind.wrap .u64 (s_0 + s_1))) 17).bind fun r91_0 =>
  (f145_bits_RotateLeft64 (bits .xor .u64 r87_0 (IntKind.wrap .u64 (s_2 + s_3))) 21).bind fun r92_0 =>
  (f145_bits_RotateLeft64 (IntKind.wrap .u64 ((IntKind.wrap .u64 (s_2 + s_3)) + (bits .xor .u64 r83_0 (IntKind.wrap .u64 (s_0 + s_1))))) 32).bind fun r93_0 =>
  some ((IntKind.wrap .u64 (r88_0 + (bits .xor .u64 r87_0 (IntKind.wrap .u64 (s_2 + s_3))))), (bits .xor .u64 r91_0 (IntKind.wrap .u64 ((IntKind.wrap .u64 (s_2 + s_3)) + (bits .xor .u64 r83_0 (IntKind.wrap .u64 (s_0 + s_1)))))), r93_0, (bits .xor .u64 r92_0 (IntKind.wrap .u64 (r88_0 + (bits .xor .u64 r87_0 (IntKind.wrap .u64 (s_2 + s_3)))))), s_4, s_5)
theorem f142_sip_state_round_ok (s_0 : Int) (s_1 : Int) (s_2 : Int) (s_3 : Int) (s_4 : Int) (s_5 : Int) (r : Int × Int × Int × Int × Int × Int) (h : f142_sip_state_round s_0 s_1 s_2 s_3 s_4 s_5 = some r) : FnOK Go.Proofs.Try.prog 142 (f142_sip_state_round_in s_0 s_1 s_2 s_3 s_4 s_5) (f142_sip_state_round_out r) := by
  unfold f142_sip_state_round at h
  refine At.fn (r := 0) Go.Proofs.Try.func142 rfl (by kernel_rfl) rfl rfl (by kernel_rfl) ?_
  show At Go.Proofs.Try.prog Go.Proofs.Try.f142 1 0 ⟨[(0, .one (.c (.ptr 0 0)))], [], [(0, [.d (.int .u64 s_0), .d (.int .u64 s_1), .d (.int .u64 s_2), .d (.int .u64 s_3), .d (.int .u64 s_4), .d (.int .i64 s_5)])], 1⟩ _
  refine At.step hm ht ⟨[], [], [], [2], [0]⟩ 1 ⟨[(2, .one (.c (.ptr 0 0)))], [], [(0, [.d (.int .u64 s_0), .d (.int .u64 s_1), .d (.int .u64 s_2), .d (.int .u64 s_3), .d (.int .u64 s_4), .d (.int .i64 s_5)])], 1⟩ [] (by kernel_rfl) trivial ?_
  refine At.step hm ht ⟨[], [], [], [2], [0]⟩ 2 ⟨[(2, .one (.c (.ptr 0 0)))], [], [(0, [.d (.int .u64 (IntKind.wrap .u64 (s_0 + s_1))), .d (.int .u64 s_1), .d (.int .u64 s_2), .d (.int .u64 s_3), .d (.int .u64 s_4), .d (.int .i64 s_5)])], 1⟩ [(0 : Int) ≤ (0 : Int) ∧ (0 : Int) < ((4 : Nat) : Int), (0 : Int) ≤ (1 : Int) ∧ (1 : Int) < ((4 : Nat) : Int), (0 : Int) ≤ (0 : Int) ∧ (0 : Int) < ((4 : Nat) : Int), 0 + 1 ≤ 6] (by kernel_rfl) ⟨(by decide), (by decide), (by decide), (by decide), trivial⟩ ?_
  refine At.step hm ht ⟨[], [], [], [2], [0]⟩ 3 ⟨[(2, .one (.c (.ptr 0 0)))], [], [(0, [.d (.int .u64 (IntKind.wrap .u64 (s_0 + s_1))), .d (.int .u64 s_1), .d (.int .u64 (IntKind.wrap .u64 (s_2 + s_3))), .d (.int .u64 s_3), .d (.int .u64 s_4), .d (.int .i64 s_5)])], 1⟩ [(0 : Int) ≤ (2 : Int) ∧ (2 : Int) < ((4 : Nat) : Int), (0 : Int) ≤ (3 : Int) ∧ (3 : Int) < ((4 : Nat) : Int), (0 : Int) ≤ (2 : Int) ∧ (2 : Int) < ((4 : Nat) : Int), 2 + 1 ≤ 6] (by kernel_rfl) ⟨(by decide), (by decide), (by decide), (by decide), trivial⟩ ?_
  obtain ⟨r83_0, cr83_0, h⟩ := bindS h
  refine At.step hm ht ⟨[(5, .call [] [] (f145_bits_RotateLeft64_out r83_0))], [], [], [2], [0]⟩ 4 ⟨[(2, .one (.c (.ptr 0 0)))], [], [(0, [.d (.int .u64 (IntKind.wrap .u64 (s_0 + s_1))), .d (.int .u64 (bits .xor .u64 r83_0 (IntKind.wrap .u64 (s_0 + s_1)))), .d (.int .u64 (IntKind.wrap .u64 (s_2 + s_3))), .d (.int .u64 s_3), .d (.int .u64 s_4), .d (.int .i64 s_5)])], 1⟩ [(0 : Int) ≤ (1 : Int) ∧ (1 : Int) < ((4 : Nat) : Int), FnOK Go.Proofs.Try.prog 145 (f145_bits_RotateLeft64_in s_1 13) (f145_bits_RotateLeft64_out r83_0), (0 : Int) ≤ (0 : Int) ∧ (0 : Int) < ((4 : Nat) : Int), (0 : Int) ≤ (1 : Int) ∧ (1 : Int) < ((4 : Nat) : Int), 1 + 1 ≤ 6] (by kernel_rfl) ⟨(by decide), (f145_bits_RotateLeft64_ok s_1 13 r83_0 cr83_0), (by decide), (by decide), (by decide), trivial⟩ ?_
  obtain ⟨r87_0, cr87_0, h⟩ := bindS h
  refine At.step hm ht ⟨[(5, .call [] [] (f145_bits_RotateLeft64_out r87_0))], [], [], [2], [0]⟩ 5 ⟨[(2, .one (.c (.ptr 0 0)))], [], [(0, [.d (.int .u64 (IntKind.wrap .u64 (s_0 + s_1))), .d (.int .u64 (bits .xor .u64 r83_0 (IntKind.wrap .u64 (s_0 + s_1)))), .d (.int .u64 (IntKind.wrap .u64 (s_2 + s_3))), .d (.int .u64 (bits .xor .u64 r87_0 (IntKind.wrap .u64 (s_2 + s_3)))), .d (.int .u64 s_4), .d (.int .i64 s_5)])], 1⟩ [(0 : Int) ≤ (3 : Int) ∧ (3 : Int) < ((4 : Nat) : Int), FnOK Go.Proofs.Try.prog 145 (f145_bits_RotateLeft64_in s_3 16) (f145_bits_RotateLeft64_out r87_0), (0 : Int) ≤ (2 : Int) ∧ (2 : Int) < ((4 : Nat) : Int), (0 : Int) ≤ (3 : Int) ∧ (3 : Int) < ((4 : Nat) : Int), 3 + 1 ≤ 6] (by kernel_rfl) ⟨(by decide), (f145_bits_RotateLeft64_ok s_3 16 r87_0 cr87_0), (by decide), (by decide), (by decide), trivial⟩ ?_
  obtain ⟨r88_0, cr88_0, h⟩ := bindS h
  refine At.step hm ht ⟨[(5, .call [] [] (f145_bits_RotateLeft64_out r88_0))], [], [], [2], [0]⟩ 6 ⟨[(2, .one (.c (.ptr 0 0)))], [], [(0, [.d (.int .u64 r88_0), .d (.int .u64 (bits .xor .u64 r83_0 (IntKind.wrap .u64 (s_0 + s_1)))), .d (.int .u64 (IntKind.wrap .u64 (s_2 + s_3))), .d (.int .u64 (bits .xor .u64 r87_0 (IntKind.wrap .u64 (s_2 + s_3)))), .d (.int .u64 s_4), .d (.int .i64 s_5)])], 1⟩ [(0 : Int) ≤ (0 : Int) ∧ (0 : Int) < ((4 : Nat) : Int), FnOK Go.Proofs.Try.prog 145 (f145_bits_RotateLeft64_in (IntKind.wrap .u64 (s_0 + s_1)) 32) (f145_bits_RotateLeft64_out r88_0), (0 : Int) ≤ (0 : Int) ∧ (0 : Int) < ((4 : Nat) : Int), 0 + 1 ≤ 6] (by kernel_rfl) ⟨(by decide), (f145_bits_RotateLeft64_ok (IntKind.wrap .u64 (s_0 + s_1)) 32 r88_0 cr88_0), (by decide), (by decide), trivial⟩ ?_
  refine At.step hm ht ⟨[], [], [], [2], [0]⟩ 7 ⟨[(2, .one (.c (.ptr 0 0)))], [], [(0, [.d (.int .u64 r88_0), .d (.int .u64 (bits .xor .u64 r83_0 (IntKind.wrap .u64 (s_0 + s_1)))), .d (.int .u64 (IntKind.wrap .u64 ((IntKind.wrap .u64 (s_2 + s_3)) + (bits .xor .u64 r83_0 (IntKind.wrap .u64 (s_0 + s_1)))))), .d (.int .u64 (bits .xor .u64 r87_0 (IntKind.wrap .u64 (s_2 + s_3)))), .d (.int .u64 s_4), .d (.int .i64 s_5)])], 1⟩ [(0 : Int) ≤ (2 : Int) ∧ (2 : Int) < ((4 : Nat) : Int), (0 : Int) ≤ (1 : Int) ∧ (1 : Int) < ((4 : Nat) : Int), (0 : Int) ≤ (2 : Int) ∧ (2 : Int) < ((4 : Nat) : Int), 2 + 1 ≤ 6] (by kernel_rfl) ⟨(by decide), (by decide), (by decide), (by decide), trivial⟩ ?_
  refine At.step hm ht ⟨[], [], [], [2], [0]⟩ 8 ⟨[(2, .one (.c (.ptr 0 0)))], [], [(0, [.d (.int .u64 (IntKind.wrap .u64 (r88_0 + (bits .xor .u64 r87_0 (IntKind.wrap .u64 (s_2 + s_3)))))), .d (.int .u64 (bits .xor .u64 r83_0 (IntKind.wrap .u64 (s_0 + s_1)))), .d (.int .u64 (IntKind.wrap .u64 ((IntKind.wrap .u64 (s_2 + s_3)) + (bits .xor .u64 r83_0 (IntKind.wrap .u64 (s_0 + s_1)))))), .d (.int .u64 (bits .xor .u64 r87_0 (IntKind.wrap .u64 (s_2 + s_3)))), .d (.int .u64 s_4), .d (.int .i64 s_5)])], 1⟩ [(0 : Int) ≤ (0 : Int) ∧ (0 : Int) < ((4 : Nat) : Int), (0 : Int) ≤ (3 : Int) ∧ (3 : Int) < ((4 : Nat) : Int), (0 : Int) ≤ (0 : Int) ∧ (0 : Int) < ((4 : Nat) : Int), 0 + 1 ≤ 6] (by kernel_rfl) ⟨(by decide), (by decide), (by decide), (by decide), trivial⟩ ?_
  obtain ⟨r91_0, cr91_0, h⟩ := bindS h
  refine At.step hm ht ⟨[(5, .call [] [] (f145_bits_RotateLeft64_out r91_0))], [], [], [2], [0]⟩ 9 ⟨[(2, .one (.c (.ptr 0 0)))], [], [(0, [.d (.int .u64 (IntKind.wrap .u64 (r88_0 + (bits .xor .u64 r87_0 (IntKind.wrap .u64 (s_2 + s_3)))))), .d (.int .u64 (bits .xor .u64 r91_0 (IntKind.wrap .u64 ((IntKind.wrap .u64 (s_2 + s_3)) + (bits .xor .u64 r83_0 (IntKind.wrap .u64 (s_0 + s_1))))))), .d (.int .u64 (IntKind.wrap .u64 ((IntKind.wrap .u64 (s_2 + s_3)) + (bits .xor .u64 r83_0 (IntKind.wrap .u64 (s_0 + s_1)))))), .d (.int .u64 (bits .xor .u64 r87_0 (IntKind.wrap .u64 (s_2 + s_3)))), .d (.int .u64 s_4), .d (.int .i64 s_5)])], 1⟩ [(0 : Int) ≤ (1 : Int) ∧ (1 : Int) < ((4 : Nat) : Int), FnOK Go.Proofs.Try.prog 145 (f145_bits_RotateLeft64_in (bits .xor .u64 r83_0 (IntKind.wrap .u64 (s_0 + s_1))) 17) (f145_bits_RotateLeft64_out r91_0), (0 : Int) ≤ (2 : Int) ∧ (2 : Int) < ((4 : Nat) : Int), (0 : Int) ≤ (1 : Int) ∧ (1 : Int) < ((4 : Nat) : Int), 1 + 1 ≤ 6] (by kernel_rfl) ⟨(by decide), (f145_bits_RotateLeft64_ok (bits .xor .u64 r83_0 (IntKind.wrap .u64 (s_0 + s_1))) 17 r91_0 cr91_0), (by decide), (by decide), (by decide), trivial⟩ ?_
  obtain ⟨r92_0, cr92_0, h⟩ := bindS h
  refine At.step hm ht ⟨[(5, .call [] [] (f145_bits_RotateLeft64_out r92_0))], [], [], [2], [0]⟩ 10 ⟨[(2, .one (.c (.ptr 0 0)))], [], [(0, [.d (.int .u64 (IntKind.wrap .u64 (r88_0 + (bits .xor .u64 r87_0 (IntKind.wrap .u64 (s_2 + s_3)))))), .d (.int .u64 (bits .xor .u64 r91_0 (IntKind.wrap .u64 ((IntKind.wrap .u64 (s_2 + s_3)) + (bits .xor .u64 r83_0 (IntKind.wrap .u64 (s_0 + s_1))))))), .d (.int .u64 (IntKind.wrap .u64 ((IntKind.wrap .u64 (s_2 + s_3)) + (bits .xor .u64 r83_0 (IntKind.wrap .u64 (s_0 + s_1)))))), .d (.int .u64 (bits .xor .u64 r92_0 (IntKind.wrap .u64 (r88_0 + (bits .xor .u64 r87_0 (IntKind.wrap .u64 (s_2 + s_3))))))), .d (.int .u64 s_4), .d (.int .i64 s_5)])], 1⟩ [(0 : Int) ≤ (3 : Int) ∧ (3 : Int) < ((4 : Nat) : Int), FnOK Go.Proofs.Try.prog 145 (f145_bits_RotateLeft64_in (bits .xor .u64 r87_0 (IntKind.wrap .u64 (s_2 + s_3))) 21) (f145_bits_RotateLeft64_out r92_0), (0 : Int) ≤ (0 : Int) ∧ (0 : Int) < ((4 : Nat) : Int), (0 : Int) ≤ (3 : Int) ∧ (3 : Int) < ((4 : Nat) : Int), 3 + 1 ≤ 6] (by kernel_rfl) ⟨(by decide), (f145_bits_RotateLeft64_ok (bits .xor .u64 r87_0 (IntKind.wrap .u64 (s_2 + s_3))) 21 r92_0 cr92_0), (by decide), (by decide), (by decide), trivial⟩ ?_
  obtain ⟨r93_0, cr93_0, h⟩ := bindS h
  have h := Option.some.inj h
  subst h
  exact At.fin hm ht ⟨[(5, .call [] [] (f145_bits_RotateLeft64_out r93_0))], [], [], [], [0]⟩ [(0 : Int) ≤ (2 : Int) ∧ (2 : Int) < ((4 : Nat) : Int), FnOK Go.Proofs.Try.prog 145 (f145_bits_RotateLeft64_in (IntKind.wrap .u64 ((IntKind.wrap .u64 (s_2 + s_3)) + (bits .xor .u64 r83_0 (IntKind.wrap .u64 (s_0 + s_1))))) 32) (f145_bits_RotateLeft64_out r93_0), (0 : Int) ≤ (2 : Int) ∧ (2 : Int) < ((4 : Nat) : Int), 2 + 1 ≤ 6] (by kernel_rfl) ⟨(by decide), (f145_bits_RotateLeft64_ok (IntKind.wrap .u64 ((IntKind.wrap .u64 (s_2 + s_3)) + (bits .xor .u64 r83_0 (IntKind.wrap .u64 (s_0 + s_1))))) 32 r93_0 cr93_0), (by decide), (by decide), trivial⟩
/-! (*brougham/sip.state).take -/
def f141_sip_state_take_in (m : Int) (s_0 : Int) (s_1 : Int) (s_2 : Int) (s_3 : Int) (s_4 : Int) (s_5 : Int) : Inn := ⟨[.c (.ptr 0 0), .c (.d (.int .u64 m))], [], [(0, [.d (.int .u64 s_0), .d (.int .u64 s_1), .d (.int .u64 s_2), .d (.int .u64 s_3), .d (.int .u64 s_4), .d (.int .i64 s_5)])], 1⟩
def f141_sip_state_take_out (r : Int × Int × Int × Int × Int × Int) : Out := ⟨.tup [], [], [(0, [.d (.int .u64 r.1), .d (.int .u64 r.2.1), .d (.int .u64 r.2.2.1), .d (.int .u64 r.2.2.2.1), .d (.int .u64 r.2.2.2.2.1), .d (.int .i64 r.2.2.2.2.2)])], 1⟩
def f141_sip_state_take (m : Int) (s_0 : Int) (s_1 : Int) (s_2 : Int) (s_3 : Int) (s_4 : Int) (s_5 : Int) : Option (Int × Int × Int × Int × Int × Int) :=
  (f142_sip_state_round s_0 s_1 s_2 (bits .xor .u64 s_3 m) s_4 s_5).bind fun r79_0 =>
  (f142_sip_state_round r79_0.1 r79_0.2.1 r79_0.2.2.1 r79_0.2.2.2.1 r79_0.2.2.2.2.1 r79_0.2.2.2.2.2).bind fun r94_0 =>
  some ((bits .xor .u64 r94_0.1 m), r94_0.2.1, r94_0.2.2.1, r94_0.2.2.2.1, r94_0.2.2.2.2.1, r94_0.2.2.2.2.2)
theorem f141_sip_state_take_ok (m : Int) (s_0 : Int) (s_1 : Int) (s_2 : Int) (s_3 : Int) (s_4 : Int) (s_5 : Int) (r : Int × Int × Int × Int × Int × Int) (h : f141_sip_state_take m s_0 s_1 s_2 s_3 s_4 s_5 = some r) : FnOK Go.Proofs.Try.prog 141 (f141_sip_state_take_in m s_0 s_1 s_2 s_3 s_4 s_5) (f141_sip_state_take_out r) := by
  unfold f141_sip_state_take at h
  refine At.fn (r := 0) Go.Proofs.Try.func141 rfl (by kernel_rfl) rfl rfl (by kernel_rfl) ?_
  show At Go.Proofs.Try.prog Go.Proofs.Try.f141 1 0 ⟨[(0, .one (.c (.ptr 0 0))), (1, .one (.c (.d (.int .u64 m))))], [], [(0, [.d (.int .u64 s_0), .d (.int .u64 s_1), .d (.int .u64 s_2), .d (.int .u64 s_3), .d (.int .u64 s_4), .d (.int .i64 s_5)])], 1⟩ _
  refine At.step hm ht ⟨[], [], [], [0, 1], [0]⟩ 1 ⟨[(0, .one (.c (.ptr 0 0))), (1, .one (.c (.d (.int .u64 m))))], [], [(0, [.d (.int .u64 s_0), .d (.int .u64 s_1), .d (.int .u64 s_2), .d (.int .u64 (bits .xor .u64 s_3 m)), .d (.int .u64 s_4), .d (.int .i64 s_5)])], 1⟩ [(0 : Int) ≤ (3 : Int) ∧ (3 : Int) < ((4 : Nat) : Int), (0 : Int) ≤ (3 : Int) ∧ (3 : Int) < ((4 : Nat) : Int), 3 + 1 ≤ 6] (by kernel_rfl) ⟨(by decide), (by decide), (by decide), trivial⟩ ?_
  obtain ⟨r79_0, cr79_0, h⟩ := bindS h
  refine At.step hm ht ⟨[(1, .call [0] [] (f142_sip_state_round_out r79_0))], [], [], [0, 1], [0]⟩ 2 ⟨[(0, .one (.c (.ptr 0 0))), (1, .one (.c (.d (.int .u64 m))))], [], [(0, [.d (.int .u64 r79_0.1), .d (.int .u64 r79_0.2.1), .d (.int .u64 r79_0.2.2.1), .d (.int .u64 r79_0.2.2.2.1), .d (.int .u64 r79_0.2.2.2.2.1), .d (.int .i64 r79_0.2.2.2.2.2)])], 1⟩ [FnOK Go.Proofs.Try.prog 142 (f142_sip_state_round_in s_0 s_1 s_2 (bits .xor .u64 s_3 m) s_4 s_5) (f142_sip_state_round_out r79_0)] (by kernel_rfl) ⟨(f142_sip_state_round_ok s_0 s_1 s_2 (bits .xor .u64 s_3 m) s_4 s_5 r79_0 cr79_0), trivial⟩ ?_
  obtain ⟨r94_0, cr94_0, h⟩ := bindS h
  refine At.step hm ht ⟨[(1, .call [0] [] (f142_sip_state_round_out r94_0))], [], [], [0, 1], [0]⟩ 3 ⟨[(0, .one (.c (.ptr 0 0))), (1, .one (.c (.d (.int .u64 m))))], [], [(0, [.d (.int .u64 r94_0.1), .d (.int .u64 r94_0.2.1), .d (.int .u64 r94_0.2.2.1), .d (.int .u64 r94_0.2.2.2.1), .d (.int .u64 r94_0.2.2.2.2.1), .d (.int .i64 r94_0.2.2.2.2.2)])], 1⟩ [FnOK Go.Proofs.Try.prog 142 (f142_sip_state_round_in r79_0.1 r79_0.2.1 r79_0.2.2.1 r79_0.2.2.2.1 r79_0.2.2.2.2.1 r79_0.2.2.2.2.2) (f142_sip_state_round_out r94_0)] (by kernel_rfl) ⟨(f142_sip_state_round_ok r79_0.1 r79_0.2.1 r79_0.2.2.1 r79_0.2.2.2.1 r79_0.2.2.2.2.1 r79_0.2.2.2.2.2 r94_0 cr94_0), trivial⟩ ?_
  have h := Option.some.inj h
  subst h
  exact At.fin hm ht ⟨[], [], [], [], [0]⟩ [(0 : Int) ≤ (0 : Int) ∧ (0 : Int) < ((4 : Nat) : Int), (0 : Int) ≤ (0 : Int) ∧ (0 : Int) < ((4 : Nat) : Int), 0 + 1 ≤ 6] (by kernel_rfl) ⟨(by decide), (by decide), (by decide), trivial⟩
/-! (*brougham/sip.state).byte -/
def f136_sip_state_byte_in (c : Int) (s_0 : Int) (s_1 : Int) (s_2 : Int) (s_3 : Int) (s_4 : Int) (s_5 : Int) : Inn := ⟨[.c (.ptr 0 0), .c (.d (.int .u8 c))], [], [(0, [.d (.int .u64 s_0), .d (.int .u64 s_1), .d (.int .u64 s_2), .d (.int .u64 s_3), .d (.int .u64 s_4), .d (.int .i64 s_5)])], 1⟩
def f136_sip_state_byte_out (r : Int × Int × Int × Int × Int × Int) : Out := ⟨.tup [], [], [(0, [.d (.int .u64 r.1), .d (.int .u64 r.2.1), .d (.int .u64 r.2.2.1), .d (.int .u64 r.2.2.2.1), .d (.int .u64 r.2.2.2.2.1), .d (.int .i64 r.2.2.2.2.2)])], 1⟩
def f136_sip_state_byte (c : Int) (s_0 : Int) (s_1 : Int) (s_2 : Int) (s_3 : Int) (s_4 : Int) (s_5 : Int) : Option (Int × Int × Int × Int × Int × Int) :=
  if (0 : Int) ≤ (IntKind.wrap .i64 (8 * (Int.tmod s_5 8))) then
  if (((Int.tmod (IntKind.wrap .i64 (s_5 + 1)) 8) : Int) == 0) = true then
    (f141_sip_state_take (bits .or .u64 s_4 (IntKind.wrap .u64 ((IntKind.wrap .u64 c) * 2 ^ (min (IntKind.wrap .i64 (8 * (Int.tmod s_5 8))).toNat (IntKind.bits .u64))))) s_0 s_1 s_2 s_3 (bits .or .u64 s_4 (IntKind.wrap .u64 ((IntKind.wrap .u64 c) * 2 ^ (min (IntKind.wrap .i64 (8 * (Int.tmod s_5 8))).toNat (IntKind.bits .u64))))) (IntKind.wrap .i64 (s_5 + 1))).bind fun r77_0 =>
    some (r77_0.1, r77_0.2.1, r77_0.2.2.1, r77_0.2.2.2.1, 0, r77_0.2.2.2.2.2)
  else
    some (s_0, s_1, s_2, s_3, (bits .or .u64 s_4 (IntKind.wrap .u64 ((IntKind.wrap .u64 c) * 2 ^ (min (IntKind.wrap .i64 (8 * (Int.tmod s_5 8))).toNat (IntKind.bits .u64))))), (IntKind.wrap .i64 (s_5 + 1)))
  else none
theorem f136_sip_state_byte_ok (c : Int) (s_0 : Int) (s_1 : Int) (s_2 : Int) (s_3 : Int) (s_4 : Int) (s_5 : Int) (r : Int × Int × Int × Int × Int × Int) (h : f136_sip_state_byte c s_0 s_1 s_2 s_3 s_4 s_5 = some r) : FnOK Go.Proofs.Try.prog 136 (f136_sip_state_byte_in c s_0 s_1 s_2 s_3 s_4 s_5) (f136_sip_state_byte_out r) := by
  unfold f136_sip_state_byte at h
  refine At.fn (r := 0) Go.Proofs.Try.func136 rfl (by kernel_rfl) rfl rfl (by kernel_rfl) ?_
  show At Go.Proofs.Try.prog Go.Proofs.Try.f136 1 0 ⟨[(0, .one (.c (.ptr 0 0))), (1, .one (.c (.d (.int .u8 c))))], [], [(0, [.d (.int .u64 s_0), .d (.int .u64 s_1), .d (.int .u64 s_2), .d (.int .u64 s_3), .d (.int .u64 s_4), .d (.int .i64 s_5)])], 1⟩ _
  obtain ⟨g74_0, h⟩ := ifS h
  refine At.step hm ht ⟨[], [], [], [0], [0]⟩ 1 ⟨[(0, .one (.c (.ptr 0 0)))], [], [(0, [.d (.int .u64 s_0), .d (.int .u64 s_1), .d (.int .u64 s_2), .d (.int .u64 s_3), .d (.int .u64 (bits .or .u64 s_4 (IntKind.wrap .u64 ((IntKind.wrap .u64 c) * 2 ^ (min (IntKind.wrap .i64 (8 * (Int.tmod s_5 8))).toNat (IntKind.bits .u64)))))), .d (.int .i64 s_5)])], 1⟩ [(8 : Int) ≠ 0, (0 : Int) ≤ (IntKind.wrap .i64 (8 * (Int.tmod s_5 8))), 4 + 1 ≤ 6] (by kernel_rfl) ⟨(by decide), g74_0, (by decide), trivial⟩ ?_
  refine At.step hm ht ⟨[], [], [], [0], [0]⟩ 2 ⟨[(0, .one (.c (.ptr 0 0)))], [], [(0, [.d (.int .u64 s_0), .d (.int .u64 s_1), .d (.int .u64 s_2), .d (.int .u64 s_3), .d (.int .u64 (bits .or .u64 s_4 (IntKind.wrap .u64 ((IntKind.wrap .u64 c) * 2 ^ (min (IntKind.wrap .i64 (8 * (Int.tmod s_5 8))).toNat (IntKind.bits .u64)))))), .d (.int .i64 (IntKind.wrap .i64 (s_5 + 1)))])], 1⟩ [5 + 1 ≤ 6] (by kernel_rfl) ⟨(by decide), trivial⟩ ?_
  rcases iteS h with ⟨b76_e0, h⟩ | ⟨b76_e0, h⟩
  · refine At.step hm ht ⟨[], [true], [], [0], [0]⟩ 3 ⟨[(0, .one (.c (.ptr 0 0)))], [], [(0, [.d (.int .u64 s_0), .d (.int .u64 s_1), .d (.int .u64 s_2), .d (.int .u64 s_3), .d (.int .u64 (bits .or .u64 s_4 (IntKind.wrap .u64 ((IntKind.wrap .u64 c) * 2 ^ (min (IntKind.wrap .i64 (8 * (Int.tmod s_5 8))).toNat (IntKind.bits .u64)))))), .d (.int .i64 (IntKind.wrap .i64 (s_5 + 1)))])], 1⟩ [(8 : Int) ≠ 0, (((Int.tmod (IntKind.wrap .i64 (s_5 + 1)) 8) : Int) == 0) = true] (by kernel_rfl) ⟨(by decide), b76_e0, trivial⟩ ?_
    obtain ⟨r77_0, cr77_0, h⟩ := bindS h
    refine At.step hm ht ⟨[(5, .call [0] [] (f141_sip_state_take_out r77_0))], [], [], [0], [0]⟩ 4 ⟨[(0, .one (.c (.ptr 0 0)))], [], [(0, [.d (.int .u64 r77_0.1), .d (.int .u64 r77_0.2.1), .d (.int .u64 r77_0.2.2.1), .d (.int .u64 r77_0.2.2.2.1), .d (.int .u64 r77_0.2.2.2.2.1), .d (.int .i64 r77_0.2.2.2.2.2)])], 1⟩ [FnOK Go.Proofs.Try.prog 141 (f141_sip_state_take_in (bits .or .u64 s_4 (IntKind.wrap .u64 ((IntKind.wrap .u64 c) * 2 ^ (min (IntKind.wrap .i64 (8 * (Int.tmod s_5 8))).toNat (IntKind.bits .u64))))) s_0 s_1 s_2 s_3 (bits .or .u64 s_4 (IntKind.wrap .u64 ((IntKind.wrap .u64 c) * 2 ^ (min (IntKind.wrap .i64 (8 * (Int.tmod s_5 8))).toNat (IntKind.bits .u64))))) (IntKind.wrap .i64 (s_5 + 1))) (f141_sip_state_take_out r77_0)] (by kernel_rfl) ⟨(f141_sip_state_take_ok (bits .or .u64 s_4 (IntKind.wrap .u64 ((IntKind.wrap .u64 c) * 2 ^ (min (IntKind.wrap .i64 (8 * (Int.tmod s_5 8))).toNat (IntKind.bits .u64))))) s_0 s_1 s_2 s_3 (bits .or .u64 s_4 (IntKind.wrap .u64 ((IntKind.wrap .u64 c) * 2 ^ (min (IntKind.wrap .i64 (8 * (Int.tmod s_5 8))).toNat (IntKind.bits .u64))))) (IntKind.wrap .i64 (s_5 + 1)) r77_0 cr77_0), trivial⟩ ?_
    have h := Option.some.inj h
    subst h
    exact At.fin hm ht ⟨[], [], [], [], [0]⟩ [4 + 1 ≤ 6] (by kernel_rfl) ⟨(by decide), trivial⟩
  · have h := Option.some.inj h
    subst h
    exact At.fin hm ht ⟨[], [false], [], [], [0]⟩ [(8 : Int) ≠ 0, (((Int.tmod (IntKind.wrap .i64 (s_5 + 1)) 8) : Int) == 0) = false] (by kernel_rfl) ⟨(by decide), b76_e0, trivial⟩
/-! (*brougham/sip.state).end -/
def f137_sip_state_end_in (s_0 : Int) (s_1 : Int) (s_2 : Int) (s_3 : Int) (s_4 : Int) (s_5 : Int) : Inn := ⟨[.c (.ptr 0 0)], [], [(0, [.d (.int .u64 s_0), .d (.int .u64 s_1), .d (.int .u64 s_2), .d (.int .u64 s_3), .d (.int .u64 s_4), .d (.int .i64 s_5)])], 1⟩
def f137_sip_state_end_out (r : Int × Int × Int × Int × Int × Int × Int) : Out := ⟨.one (.c (.d (.int .u64 r.1))), [], [(0, [.d (.int .u64 r.2.1), .d (.int .u64 r.2.2.1), .d (.int .u64 r.2.2.2.1), .d (.int .u64 r.2.2.2.2.1), .d (.int .u64 r.2.2.2.2.2.1), .d (.int .i64 r.2.2.2.2.2.2)])], 1⟩
def f137_sip_state_end_L4 : Nat → Int → Int → Int → Int → Int → Int → Int → Option (Int × Int × Int × Int × Int × Int)
  | 0, _, _, _, _, _, _, _ => none
  | n + 1, t26, s_0, s_1, s_2, s_3, s_4, s_5 =>
    if (decide ((t26 : Int) < 4)) = true then
      (f142_sip_state_round s_0 s_1 s_2 s_3 s_4 s_5).bind fun r109_0 =>
      f137_sip_state_end_L4 n (IntKind.wrap .i64 (t26 + 1)) r109_0.1 r109_0.2.1 r109_0.2.2.1 r109_0.2.2.2.1 r109_0.2.2.2.2.1 r109_0.2.2.2.2.2
    else
      some ((s_0, s_1, s_2, s_3, s_4, s_5))
def f137_sip_state_end_L4_k (e : Int × Int × Int × Int × Int × Int) (o : Out) : Prop := At Go.Proofs.Try.prog Go.Proofs.Try.f137 1 7 ⟨[(0, .one (.c (.ptr 0 0)))], [], [(0, [.d (.int .u64 e.1), .d (.int .u64 e.2.1), .d (.int .u64 e.2.2.1), .d (.int .u64 e.2.2.2.1), .d (.int .u64 e.2.2.2.2.1), .d (.int .i64 e.2.2.2.2.2)])], 1⟩ o
theorem f137_sip_state_end_L4_ok (n : Nat) : ∀ (t26 : Int) (s_0 : Int) (s_1 : Int) (s_2 : Int) (s_3 : Int) (s_4 : Int) (s_5 : Int) (w : Int × Int × Int × Int × Int × Int) (h : f137_sip_state_end_L4 n t26 s_0 s_1 s_2 s_3 s_4 s_5 = some w) (o : Out) (hk : f137_sip_state_end_L4_k w o), At Go.Proofs.Try.prog Go.Proofs.Try.f137 1 4 ⟨[(0, .one (.c (.ptr 0 0))), (26, .one (.c (.d (.int .i64 t26))))], [], [(0, [.d (.int .u64 s_0), .d (.int .u64 s_1), .d (.int .u64 s_2), .d (.int .u64 s_3), .d (.int .u64 s_4), .d (.int .i64 s_5)])], 1⟩ o := by
  induction n with
  | zero => intro t26 s_0 s_1 s_2 s_3 s_4 s_5 w h; rw [f137_sip_state_end_L4] at h; cases h
  | succ n ih =>
    intro t26 s_0 s_1 s_2 s_3 s_4 s_5 w h o hk
    rw [f137_sip_state_end_L4] at h
    rcases iteS h with ⟨b108_e0, h⟩ | ⟨b108_e0, h⟩
    · refine At.step hm ht ⟨[], [true], [], [0, 26], [0]⟩ 5 ⟨[(0, .one (.c (.ptr 0 0))), (26, .one (.c (.d (.int .i64 t26))))], [], [(0, [.d (.int .u64 s_0), .d (.int .u64 s_1), .d (.int .u64 s_2), .d (.int .u64 s_3), .d (.int .u64 s_4), .d (.int .i64 s_5)])], 1⟩ [(decide ((t26 : Int) < 4)) = true] (by kernel_rfl) ⟨b108_e0, trivial⟩ ?_
      obtain ⟨r109_0, cr109_0, h⟩ := bindS h
      refine At.step hm ht ⟨[(1, .call [0] [] (f142_sip_state_round_out r109_0))], [], [], [0, 26], [0]⟩ 6 ⟨[(0, .one (.c (.ptr 0 0))), (26, .one (.c (.d (.int .i64 t26))))], [], [(0, [.d (.int .u64 r109_0.1), .d (.int .u64 r109_0.2.1), .d (.int .u64 r109_0.2.2.1), .d (.int .u64 r109_0.2.2.2.1), .d (.int .u64 r109_0.2.2.2.2.1), .d (.int .i64 r109_0.2.2.2.2.2)])], 1⟩ [FnOK Go.Proofs.Try.prog 142 (f142_sip_state_round_in s_0 s_1 s_2 s_3 s_4 s_5) (f142_sip_state_round_out r109_0)] (by kernel_rfl) ⟨(f142_sip_state_round_ok s_0 s_1 s_2 s_3 s_4 s_5 r109_0 cr109_0), trivial⟩ ?_
      refine At.step hm ht ⟨[], [], [], [0, 26], [0]⟩ 4 ⟨[(0, .one (.c (.ptr 0 0))), (26, .one (.c (.d (.int .i64 (IntKind.wrap .i64 (t26 + 1))))))], [], [(0, [.d (.int .u64 r109_0.1), .d (.int .u64 r109_0.2.1), .d (.int .u64 r109_0.2.2.1), .d (.int .u64 r109_0.2.2.2.1), .d (.int .u64 r109_0.2.2.2.2.1), .d (.int .i64 r109_0.2.2.2.2.2)])], 1⟩ [] (by kernel_rfl) trivial ?_
      exact ih (IntKind.wrap .i64 (t26 + 1)) r109_0.1 r109_0.2.1 r109_0.2.2.1 r109_0.2.2.2.1 r109_0.2.2.2.2.1 r109_0.2.2.2.2.2 w h o hk
    · refine At.step hm ht ⟨[], [false], [], [0], [0]⟩ 7 ⟨[(0, .one (.c (.ptr 0 0)))], [], [(0, [.d (.int .u64 s_0), .d (.int .u64 s_1), .d (.int .u64 s_2), .d (.int .u64 s_3), .d (.int .u64 s_4), .d (.int .i64 s_5)])], 1⟩ [(decide ((t26 : Int) < 4)) = false] (by kernel_rfl) ⟨b108_e0, trivial⟩ ?_
      have h := Option.some.inj h
      subst h
      exact hk
def f137_sip_state_end (n : Nat) (s_0 : Int) (s_1 : Int) (s_2 : Int) (s_3 : Int) (s_4 : Int) (s_5 : Int) : Option (Int × Int × Int × Int × Int × Int × Int) :=
  (f141_sip_state_take (bits .or .u64 s_4 (IntKind.wrap .u64 ((IntKind.wrap .u64 (IntKind.wrap .u8 s_5)) * 2 ^ 56))) s_0 s_1 s_2 s_3 s_4 s_5).bind fun r105_0 =>
  (f137_sip_state_end_L4 n 0 r105_0.1 r105_0.2.1 (bits .xor .u64 r105_0.2.2.1 255) r105_0.2.2.2.1 r105_0.2.2.2.2.1 r105_0.2.2.2.2.2).bind fun w111 =>
  some ((bits .xor .u64 (bits .xor .u64 (bits .xor .u64 w111.1 w111.2.1) w111.2.2.1) w111.2.2.2.1), w111.1, w111.2.1, w111.2.2.1, w111.2.2.2.1, w111.2.2.2.2.1, w111.2.2.2.2.2)
theorem f137_sip_state_end_ok (n : Nat) (s_0 : Int) (s_1 : Int) (s_2 : Int) (s_3 : Int) (s_4 : Int) (s_5 : Int) (r : Int × Int × Int × Int × Int × Int × Int) (h : f137_sip_state_end n s_0 s_1 s_2 s_3 s_4 s_5 = some r) : FnOK Go.Proofs.Try.prog 137 (f137_sip_state_end_in s_0 s_1 s_2 s_3 s_4 s_5) (f137_sip_state_end_out r) := by
  unfold f137_sip_state_end at h
  refine At.fn (r := 0) Go.Proofs.Try.func137 rfl (by kernel_rfl) rfl rfl (by kernel_rfl) ?_
  show At Go.Proofs.Try.prog Go.Proofs.Try.f137 1 0 ⟨[(0, .one (.c (.ptr 0 0)))], [], [(0, [.d (.int .u64 s_0), .d (.int .u64 s_1), .d (.int .u64 s_2), .d (.int .u64 s_3), .d (.int .u64 s_4), .d (.int .i64 s_5)])], 1⟩ _
  refine At.step hm ht ⟨[], [], [], [0], [0]⟩ 1 ⟨[(0, .one (.c (.ptr 0 0)))], [], [(0, [.d (.int .u64 s_0), .d (.int .u64 s_1), .d (.int .u64 s_2), .d (.int .u64 s_3), .d (.int .u64 s_4), .d (.int .i64 s_5)])], 1⟩ [] (by kernel_rfl) trivial ?_
  obtain ⟨r105_0, cr105_0, h⟩ := bindS h
  refine At.step hm ht ⟨[(13, .call [0] [] (f141_sip_state_take_out r105_0))], [], [], [0], [0]⟩ 2 ⟨[(0, .one (.c (.ptr 0 0)))], [], [(0, [.d (.int .u64 r105_0.1), .d (.int .u64 r105_0.2.1), .d (.int .u64 r105_0.2.2.1), .d (.int .u64 r105_0.2.2.2.1), .d (.int .u64 r105_0.2.2.2.2.1), .d (.int .i64 r105_0.2.2.2.2.2)])], 1⟩ [(0 : Int) ≤ 56, FnOK Go.Proofs.Try.prog 141 (f141_sip_state_take_in (bits .or .u64 s_4 (IntKind.wrap .u64 ((IntKind.wrap .u64 (IntKind.wrap .u8 s_5)) * 2 ^ 56))) s_0 s_1 s_2 s_3 s_4 s_5) (f141_sip_state_take_out r105_0)] (by kernel_rfl) ⟨(by decide), (f141_sip_state_take_ok (bits .or .u64 s_4 (IntKind.wrap .u64 ((IntKind.wrap .u64 (IntKind.wrap .u8 s_5)) * 2 ^ 56))) s_0 s_1 s_2 s_3 s_4 s_5 r105_0 cr105_0), trivial⟩ ?_
  refine At.step hm ht ⟨[], [], [], [0], [0]⟩ 3 ⟨[(0, .one (.c (.ptr 0 0)))], [], [(0, [.d (.int .u64 r105_0.1), .d (.int .u64 r105_0.2.1), .d (.int .u64 (bits .xor .u64 r105_0.2.2.1 255)), .d (.int .u64 r105_0.2.2.2.1), .d (.int .u64 r105_0.2.2.2.2.1), .d (.int .i64 r105_0.2.2.2.2.2)])], 1⟩ [(0 : Int) ≤ (2 : Int) ∧ (2 : Int) < ((4 : Nat) : Int), (0 : Int) ≤ (2 : Int) ∧ (2 : Int) < ((4 : Nat) : Int), 2 + 1 ≤ 6] (by kernel_rfl) ⟨(by decide), (by decide), (by decide), trivial⟩ ?_
  refine At.step hm ht ⟨[], [], [], [0, 26], [0]⟩ 4 ⟨[(0, .one (.c (.ptr 0 0))), (26, .one (.c (.d (.int .i64 0))))], [], [(0, [.d (.int .u64 r105_0.1), .d (.int .u64 r105_0.2.1), .d (.int .u64 (bits .xor .u64 r105_0.2.2.1 255)), .d (.int .u64 r105_0.2.2.2.1), .d (.int .u64 r105_0.2.2.2.2.1), .d (.int .i64 r105_0.2.2.2.2.2)])], 1⟩ [] (by kernel_rfl) trivial ?_
  obtain ⟨w111, cw111, h⟩ := bindS h
  refine f137_sip_state_end_L4_ok n 0 r105_0.1 r105_0.2.1 (bits .xor .u64 r105_0.2.2.1 255) r105_0.2.2.2.1 r105_0.2.2.2.2.1 r105_0.2.2.2.2.2 w111 cw111 _ ?_
  show At Go.Proofs.Try.prog Go.Proofs.Try.f137 1 7 ⟨[(0, .one (.c (.ptr 0 0)))], [], [(0, [.d (.int .u64 w111.1), .d (.int .u64 w111.2.1), .d (.int .u64 w111.2.2.1), .d (.int .u64 w111.2.2.2.1), .d (.int .u64 w111.2.2.2.2.1), .d (.int .i64 w111.2.2.2.2.2)])], 1⟩ _
  have h := Option.some.inj h
  subst h
  exact At.fin hm ht ⟨[], [], [], [2], [0]⟩ [(0 : Int) ≤ (0 : Int) ∧ (0 : Int) < ((4 : Nat) : Int), (0 : Int) ≤ (1 : Int) ∧ (1 : Int) < ((4 : Nat) : Int), (0 : Int) ≤ (2 : Int) ∧ (2 : Int) < ((4 : Nat) : Int), (0 : Int) ≤ (3 : Int) ∧ (3 : Int) < ((4 : Nat) : Int)] (by kernel_rfl) ⟨(by decide), (by decide), (by decide), (by decide), trivial⟩
/-! brougham/sip.Sum -/
def f124_sip_Sum_in (k_0 : Int) (k_1 : Int) (parts : List (List Int)) : Inn := ⟨[.agg [.d (.int .u64 k_0), .d (.int .u64 k_1)], .c (.d (.sl (.slice (.int .u8)) parts))], [], [], 0⟩
def f124_sip_Sum_out (r : Int) : Out := ⟨.one (.c (.d (.int .u64 r))), [], [], 0⟩
def f124_sip_Sum_L6 : Nat → (List (List Int)) → Int → Int → (List Int) → Int → Int → Int → Int → Int → Int → Int → Int → Option (List (List Int) × Int × Int × Int × Int × Int × Int × Int × Int)
  | 0, _, _, _, _, _, _, _, _, _, _, _, _ => none
  | n + 1, t12, t13, t14, t18, t19, t20, s_0, s_1, s_2, s_3, s_4, s_5 =>
    if (decide ((t20 : Int) < t19)) = true then
      if (0 : Int) ≤ t20 ∧ t20 < (((t18).length : Nat) : Int) then
      (f136_sip_state_byte (t18.getD t20.toNat 0) s_0 s_1 s_2 s_3 s_4 s_5).bind fun r73_0 =>
      f124_sip_Sum_L6 n t12 t13 t14 t18 t19 (IntKind.wrap .i64 (t20 + 1)) r73_0.1 r73_0.2.1 r73_0.2.2.1 r73_0.2.2.2.1 r73_0.2.2.2.2.1 r73_0.2.2.2.2.2
      else none
    else
      some ((t12, t13, t14, s_0, s_1, s_2, s_3, s_4, s_5))
def f124_sip_Sum_L6_k (e : List (List Int) × Int × Int × Int × Int × Int × Int × Int × Int) (o : Out) : Prop := At Go.Proofs.Try.prog Go.Proofs.Try.f124 0 10 ⟨[(5, .one (.c (.ptr 0 0))), (12, .one (.c (.d (.sl (.slice (.int .u8)) e.1)))), (13, .one (.c (.d (.int .i64 e.2.1)))), (14, .one (.c (.d (.int .i64 e.2.2.1))))], [], [(0, [.d (.int .u64 e.2.2.2.1), .d (.int .u64 e.2.2.2.2.1), .d (.int .u64 e.2.2.2.2.2.1), .d (.int .u64 e.2.2.2.2.2.2.1), .d (.int .u64 e.2.2.2.2.2.2.2.1), .d (.int .i64 e.2.2.2.2.2.2.2.2)])], 1⟩ o
theorem f124_sip_Sum_L6_ok (n : Nat) : ∀ (t12 : List (List Int)) (t13 : Int) (t14 : Int) (t18 : List Int) (t19 : Int) (t20 : Int) (s_0 : Int) (s_1 : Int) (s_2 : Int) (s_3 : Int) (s_4 : Int) (s_5 : Int) (w : List (List Int) × Int × Int × Int × Int × Int × Int × Int × Int) (h : f124_sip_Sum_L6 n t12 t13 t14 t18 t19 t20 s_0 s_1 s_2 s_3 s_4 s_5 = some w) (o : Out) (hk : f124_sip_Sum_L6_k w o), At Go.Proofs.Try.prog Go.Proofs.Try.f124 0 6 ⟨[(5, .one (.c (.ptr 0 0))), (12, .one (.c (.d (.sl (.slice (.int .u8)) t12)))), (13, .one (.c (.d (.int .i64 t13)))), (14, .one (.c (.d (.int .i64 t14)))), (18, .one (.c (.d (.sl (.int .u8) t18)))), (19, .one (.c (.d (.int .i64 t19)))), (20, .one (.c (.d (.int .i64 t20))))], [], [(0, [.d (.int .u64 s_0), .d (.int .u64 s_1), .d (.int .u64 s_2), .d (.int .u64 s_3), .d (.int .u64 s_4), .d (.int .i64 s_5)])], 1⟩ o := by
  induction n with
  | zero => intro t12 t13 t14 t18 t19 t20 s_0 s_1 s_2 s_3 s_4 s_5 w h; rw [f124_sip_Sum_L6] at h; cases h
  | succ n ih =>
    intro t12 t13 t14 t18 t19 t20 s_0 s_1 s_2 s_3 s_4 s_5 w h o hk
    rw [f124_sip_Sum_L6] at h
    rcases iteS h with ⟨b71_e0, h⟩ | ⟨b71_e0, h⟩
    · refine At.step hm ht ⟨[], [true], [], [5, 12, 13, 14, 18, 19, 20], [0]⟩ 7 ⟨[(5, .one (.c (.ptr 0 0))), (12, .one (.c (.d (.sl (.slice (.int .u8)) t12)))), (13, .one (.c (.d (.int .i64 t13)))), (14, .one (.c (.d (.int .i64 t14)))), (18, .one (.c (.d (.sl (.int .u8) t18)))), (19, .one (.c (.d (.int .i64 t19)))), (20, .one (.c (.d (.int .i64 t20))))], [], [(0, [.d (.int .u64 s_0), .d (.int .u64 s_1), .d (.int .u64 s_2), .d (.int .u64 s_3), .d (.int .u64 s_4), .d (.int .i64 s_5)])], 1⟩ [(decide ((t20 : Int) < t19)) = true] (by kernel_rfl) ⟨b71_e0, trivial⟩ ?_
      obtain ⟨g72_0, h⟩ := ifS h
      refine At.step hm ht ⟨[], [], [], [5, 9, 12, 13, 14, 18, 19, 20], [0]⟩ 8 ⟨[(5, .one (.c (.ptr 0 0))), (9, .one (.c (.d (.int .u8 (t18.getD t20.toNat 0))))), (12, .one (.c (.d (.sl (.slice (.int .u8)) t12)))), (13, .one (.c (.d (.int .i64 t13)))), (14, .one (.c (.d (.int .i64 t14)))), (18, .one (.c (.d (.sl (.int .u8) t18)))), (19, .one (.c (.d (.int .i64 t19)))), (20, .one (.c (.d (.int .i64 t20))))], [], [(0, [.d (.int .u64 s_0), .d (.int .u64 s_1), .d (.int .u64 s_2), .d (.int .u64 s_3), .d (.int .u64 s_4), .d (.int .i64 s_5)])], 1⟩ [(0 : Int) ≤ t20 ∧ t20 < (((t18).length : Nat) : Int)] (by kernel_rfl) ⟨g72_0, trivial⟩ ?_
      obtain ⟨r73_0, cr73_0, h⟩ := bindS h
      refine At.step hm ht ⟨[(2, .call [0] [] (f136_sip_state_byte_out r73_0))], [], [], [5, 12, 13, 14, 18, 19, 20], [0]⟩ 9 ⟨[(5, .one (.c (.ptr 0 0))), (12, .one (.c (.d (.sl (.slice (.int .u8)) t12)))), (13, .one (.c (.d (.int .i64 t13)))), (14, .one (.c (.d (.int .i64 t14)))), (18, .one (.c (.d (.sl (.int .u8) t18)))), (19, .one (.c (.d (.int .i64 t19)))), (20, .one (.c (.d (.int .i64 t20))))], [], [(0, [.d (.int .u64 r73_0.1), .d (.int .u64 r73_0.2.1), .d (.int .u64 r73_0.2.2.1), .d (.int .u64 r73_0.2.2.2.1), .d (.int .u64 r73_0.2.2.2.2.1), .d (.int .i64 r73_0.2.2.2.2.2)])], 1⟩ [FnOK Go.Proofs.Try.prog 136 (f136_sip_state_byte_in (t18.getD t20.toNat 0) s_0 s_1 s_2 s_3 s_4 s_5) (f136_sip_state_byte_out r73_0)] (by kernel_rfl) ⟨(f136_sip_state_byte_ok (t18.getD t20.toNat 0) s_0 s_1 s_2 s_3 s_4 s_5 r73_0 cr73_0), trivial⟩ ?_
      refine At.step hm ht ⟨[], [], [], [5, 12, 13, 14, 18, 19, 20], [0]⟩ 6 ⟨[(5, .one (.c (.ptr 0 0))), (12, .one (.c (.d (.sl (.slice (.int .u8)) t12)))), (13, .one (.c (.d (.int .i64 t13)))), (14, .one (.c (.d (.int .i64 t14)))), (18, .one (.c (.d (.sl (.int .u8) t18)))), (19, .one (.c (.d (.int .i64 t19)))), (20, .one (.c (.d (.int .i64 (IntKind.wrap .i64 (t20 + 1))))))], [], [(0, [.d (.int .u64 r73_0.1), .d (.int .u64 r73_0.2.1), .d (.int .u64 r73_0.2.2.1), .d (.int .u64 r73_0.2.2.2.1), .d (.int .u64 r73_0.2.2.2.2.1), .d (.int .i64 r73_0.2.2.2.2.2)])], 1⟩ [] (by kernel_rfl) trivial ?_
      exact ih t12 t13 t14 t18 t19 (IntKind.wrap .i64 (t20 + 1)) r73_0.1 r73_0.2.1 r73_0.2.2.1 r73_0.2.2.2.1 r73_0.2.2.2.2.1 r73_0.2.2.2.2.2 w h o hk
    · refine At.step hm ht ⟨[], [false], [], [5, 12, 13, 14], [0]⟩ 10 ⟨[(5, .one (.c (.ptr 0 0))), (12, .one (.c (.d (.sl (.slice (.int .u8)) t12)))), (13, .one (.c (.d (.int .i64 t13)))), (14, .one (.c (.d (.int .i64 t14))))], [], [(0, [.d (.int .u64 s_0), .d (.int .u64 s_1), .d (.int .u64 s_2), .d (.int .u64 s_3), .d (.int .u64 s_4), .d (.int .i64 s_5)])], 1⟩ [(decide ((t20 : Int) < t19)) = false] (by kernel_rfl) ⟨b71_e0, trivial⟩ ?_
      have h := Option.some.inj h
      subst h
      exact hk
def f124_sip_Sum_L3 : Nat → (List (List Int)) → Int → Int → Int → Int → Int → Int → Int → Int → Option (Int × Int × Int × Int × Int × Int)
  | 0, _, _, _, _, _, _, _, _, _ => none
  | n + 1, t12, t13, t14, s_0, s_1, s_2, s_3, s_4, s_5 =>
    if (decide ((t14 : Int) < t13)) = true then
      if (0 : Int) ≤ t14 ∧ t14 < (((t12).length : Nat) : Int) then
      (f124_sip_Sum_L6 n t12 t13 t14 (t12.getD t14.toNat []) (((t12.getD t14.toNat []).length : Nat) : Int) 0 s_0 s_1 s_2 s_3 s_4 s_5).bind fun w98 =>
      f124_sip_Sum_L3 n w98.1 w98.2.1 (IntKind.wrap .i64 (w98.2.2.1 + 1)) w98.2.2.2.1 w98.2.2.2.2.1 w98.2.2.2.2.2.1 w98.2.2.2.2.2.2.1 w98.2.2.2.2.2.2.2.1 w98.2.2.2.2.2.2.2.2
      else none
    else
      some ((s_0, s_1, s_2, s_3, s_4, s_5))
def f124_sip_Sum_L3_k (e : Int × Int × Int × Int × Int × Int) (o : Out) : Prop := At Go.Proofs.Try.prog Go.Proofs.Try.f124 0 11 ⟨[(5, .one (.c (.ptr 0 0)))], [], [(0, [.d (.int .u64 e.1), .d (.int .u64 e.2.1), .d (.int .u64 e.2.2.1), .d (.int .u64 e.2.2.2.1), .d (.int .u64 e.2.2.2.2.1), .d (.int .i64 e.2.2.2.2.2)])], 1⟩ o
theorem f124_sip_Sum_L3_ok (n : Nat) : ∀ (t12 : List (List Int)) (t13 : Int) (t14 : Int) (s_0 : Int) (s_1 : Int) (s_2 : Int) (s_3 : Int) (s_4 : Int) (s_5 : Int) (w : Int × Int × Int × Int × Int × Int) (h : f124_sip_Sum_L3 n t12 t13 t14 s_0 s_1 s_2 s_3 s_4 s_5 = some w) (o : Out) (hk : f124_sip_Sum_L3_k w o), At Go.Proofs.Try.prog Go.Proofs.Try.f124 0 3 ⟨[(5, .one (.c (.ptr 0 0))), (12, .one (.c (.d (.sl (.slice (.int .u8)) t12)))), (13, .one (.c (.d (.int .i64 t13)))), (14, .one (.c (.d (.int .i64 t14))))], [], [(0, [.d (.int .u64 s_0), .d (.int .u64 s_1), .d (.int .u64 s_2), .d (.int .u64 s_3), .d (.int .u64 s_4), .d (.int .i64 s_5)])], 1⟩ o := by
  induction n with
  | zero => intro t12 t13 t14 s_0 s_1 s_2 s_3 s_4 s_5 w h; rw [f124_sip_Sum_L3] at h; cases h
  | succ n ih =>
    intro t12 t13 t14 s_0 s_1 s_2 s_3 s_4 s_5 w h o hk
    rw [f124_sip_Sum_L3] at h
    rcases iteS h with ⟨b68_e0, h⟩ | ⟨b68_e0, h⟩
    · refine At.step hm ht ⟨[], [true], [], [5, 12, 13, 14], [0]⟩ 4 ⟨[(5, .one (.c (.ptr 0 0))), (12, .one (.c (.d (.sl (.slice (.int .u8)) t12)))), (13, .one (.c (.d (.int .i64 t13)))), (14, .one (.c (.d (.int .i64 t14))))], [], [(0, [.d (.int .u64 s_0), .d (.int .u64 s_1), .d (.int .u64 s_2), .d (.int .u64 s_3), .d (.int .u64 s_4), .d (.int .i64 s_5)])], 1⟩ [(decide ((t14 : Int) < t13)) = true] (by kernel_rfl) ⟨b68_e0, trivial⟩ ?_
      obtain ⟨g69_0, h⟩ := ifS h
      refine At.step hm ht ⟨[], [], [], [5, 7, 12, 13, 14], [0]⟩ 5 ⟨[(5, .one (.c (.ptr 0 0))), (7, .one (.c (.d (.sl (.int .u8) (t12.getD t14.toNat []))))), (12, .one (.c (.d (.sl (.slice (.int .u8)) t12)))), (13, .one (.c (.d (.int .i64 t13)))), (14, .one (.c (.d (.int .i64 t14))))], [], [(0, [.d (.int .u64 s_0), .d (.int .u64 s_1), .d (.int .u64 s_2), .d (.int .u64 s_3), .d (.int .u64 s_4), .d (.int .i64 s_5)])], 1⟩ [(0 : Int) ≤ t14 ∧ t14 < (((t12).length : Nat) : Int)] (by kernel_rfl) ⟨g69_0, trivial⟩ ?_
      refine At.step hm ht ⟨[], [], [], [5, 12, 13, 14, 18, 19, 20], [0]⟩ 6 ⟨[(5, .one (.c (.ptr 0 0))), (12, .one (.c (.d (.sl (.slice (.int .u8)) t12)))), (13, .one (.c (.d (.int .i64 t13)))), (14, .one (.c (.d (.int .i64 t14)))), (18, .one (.c (.d (.sl (.int .u8) (t12.getD t14.toNat []))))), (19, .one (.c (.d (.int .i64 (((t12.getD t14.toNat []).length : Nat) : Int))))), (20, .one (.c (.d (.int .i64 0))))], [], [(0, [.d (.int .u64 s_0), .d (.int .u64 s_1), .d (.int .u64 s_2), .d (.int .u64 s_3), .d (.int .u64 s_4), .d (.int .i64 s_5)])], 1⟩ [] (by kernel_rfl) trivial ?_
      obtain ⟨w98, cw98, h⟩ := bindS h
      refine f124_sip_Sum_L6_ok n t12 t13 t14 (t12.getD t14.toNat []) (((t12.getD t14.toNat []).length : Nat) : Int) 0 s_0 s_1 s_2 s_3 s_4 s_5 w98 cw98 _ ?_
      show At Go.Proofs.Try.prog Go.Proofs.Try.f124 0 10 ⟨[(5, .one (.c (.ptr 0 0))), (12, .one (.c (.d (.sl (.slice (.int .u8)) w98.1)))), (13, .one (.c (.d (.int .i64 w98.2.1)))), (14, .one (.c (.d (.int .i64 w98.2.2.1))))], [], [(0, [.d (.int .u64 w98.2.2.2.1), .d (.int .u64 w98.2.2.2.2.1), .d (.int .u64 w98.2.2.2.2.2.1), .d (.int .u64 w98.2.2.2.2.2.2.1), .d (.int .u64 w98.2.2.2.2.2.2.2.1), .d (.int .i64 w98.2.2.2.2.2.2.2.2)])], 1⟩ _
      refine At.step hm ht ⟨[], [], [], [5, 12, 13, 14], [0]⟩ 3 ⟨[(5, .one (.c (.ptr 0 0))), (12, .one (.c (.d (.sl (.slice (.int .u8)) w98.1)))), (13, .one (.c (.d (.int .i64 w98.2.1)))), (14, .one (.c (.d (.int .i64 (IntKind.wrap .i64 (w98.2.2.1 + 1))))))], [], [(0, [.d (.int .u64 w98.2.2.2.1), .d (.int .u64 w98.2.2.2.2.1), .d (.int .u64 w98.2.2.2.2.2.1), .d (.int .u64 w98.2.2.2.2.2.2.1), .d (.int .u64 w98.2.2.2.2.2.2.2.1), .d (.int .i64 w98.2.2.2.2.2.2.2.2)])], 1⟩ [] (by kernel_rfl) trivial ?_
      exact ih w98.1 w98.2.1 (IntKind.wrap .i64 (w98.2.2.1 + 1)) w98.2.2.2.1 w98.2.2.2.2.1 w98.2.2.2.2.2.1 w98.2.2.2.2.2.2.1 w98.2.2.2.2.2.2.2.1 w98.2.2.2.2.2.2.2.2 w h o hk
    · refine At.step hm ht ⟨[], [false], [], [5], [0]⟩ 11 ⟨[(5, .one (.c (.ptr 0 0)))], [], [(0, [.d (.int .u64 s_0), .d (.int .u64 s_1), .d (.int .u64 s_2), .d (.int .u64 s_3), .d (.int .u64 s_4), .d (.int .i64 s_5)])], 1⟩ [(decide ((t14 : Int) < t13)) = false] (by kernel_rfl) ⟨b68_e0, trivial⟩ ?_
      have h := Option.some.inj h
      subst h
      exact hk
def f124_sip_Sum (n : Nat) (k_0 : Int) (k_1 : Int) (parts : List (List Int)) : Option (Int) :=
  (f135_sip_begin k_0 k_1).bind fun r64_0 =>
  (f124_sip_Sum_L3 n parts ((parts.length : Nat) : Int) 0 r64_0.1 r64_0.2.1 r64_0.2.2.1 r64_0.2.2.2.1 r64_0.2.2.2.2.1 r64_0.2.2.2.2.2).bind fun w101 =>
  (f137_sip_state_end n w101.1 w101.2.1 w101.2.2.1 w101.2.2.2.1 w101.2.2.2.2.1 w101.2.2.2.2.2).bind fun r103_0 =>
  some r103_0.1
theorem f124_sip_Sum_ok (n : Nat) (k_0 : Int) (k_1 : Int) (parts : List (List Int)) (r : Int) (h : f124_sip_Sum n k_0 k_1 parts = some r) : FnOK Go.Proofs.Try.prog 124 (f124_sip_Sum_in k_0 k_1 parts) (f124_sip_Sum_out r) := by
  unfold f124_sip_Sum at h
  refine At.fn (r := 0) Go.Proofs.Try.func124 rfl (by kernel_rfl) rfl rfl (by kernel_rfl) ?_
  show At Go.Proofs.Try.prog Go.Proofs.Try.f124 0 0 ⟨[(0, .one (.agg [.d (.int .u64 k_0), .d (.int .u64 k_1)])), (1, .one (.c (.d (.sl (.slice (.int .u8)) parts))))], [], [], 0⟩ _
  refine At.step hm ht ⟨[], [], [], [1, 2], [0]⟩ 1 ⟨[(1, .one (.c (.d (.sl (.slice (.int .u8)) parts)))), (2, .one (.c (.ptr 0 0)))], [], [(0, [.d (.int .u64 k_0), .d (.int .u64 k_1)])], 1⟩ [] (by kernel_rfl) trivial ?_
  obtain ⟨r64_0, cr64_0, h⟩ := bindS h
  refine At.step hm ht ⟨[(1, .call [] [] (f135_sip_begin_out r64_0))], [], [], [1, 5], [2]⟩ 2 ⟨[(1, .one (.c (.d (.sl (.slice (.int .u8)) parts)))), (5, .one (.c (.ptr 0 0)))], [], [(0, [.d (.int .u64 r64_0.1), .d (.int .u64 r64_0.2.1), .d (.int .u64 r64_0.2.2.1), .d (.int .u64 r64_0.2.2.2.1), .d (.int .u64 r64_0.2.2.2.2.1), .d (.int .i64 r64_0.2.2.2.2.2)])], 1⟩ [FnOK Go.Proofs.Try.prog 135 (f135_sip_begin_in k_0 k_1) (f135_sip_begin_out r64_0)] (by kernel_rfl) ⟨(f135_sip_begin_ok k_0 k_1 r64_0 cr64_0), trivial⟩ ?_
  refine At.step hm ht ⟨[], [], [], [5, 12, 13, 14], [0]⟩ 3 ⟨[(5, .one (.c (.ptr 0 0))), (12, .one (.c (.d (.sl (.slice (.int .u8)) parts)))), (13, .one (.c (.d (.int .i64 ((parts.length : Nat) : Int))))), (14, .one (.c (.d (.int .i64 0))))], [], [(0, [.d (.int .u64 r64_0.1), .d (.int .u64 r64_0.2.1), .d (.int .u64 r64_0.2.2.1), .d (.int .u64 r64_0.2.2.2.1), .d (.int .u64 r64_0.2.2.2.2.1), .d (.int .i64 r64_0.2.2.2.2.2)])], 1⟩ [] (by kernel_rfl) trivial ?_
  obtain ⟨w101, cw101, h⟩ := bindS h
  refine f124_sip_Sum_L3_ok n parts ((parts.length : Nat) : Int) 0 r64_0.1 r64_0.2.1 r64_0.2.2.1 r64_0.2.2.2.1 r64_0.2.2.2.2.1 r64_0.2.2.2.2.2 w101 cw101 _ ?_
  show At Go.Proofs.Try.prog Go.Proofs.Try.f124 0 11 ⟨[(5, .one (.c (.ptr 0 0)))], [], [(0, [.d (.int .u64 w101.1), .d (.int .u64 w101.2.1), .d (.int .u64 w101.2.2.1), .d (.int .u64 w101.2.2.2.1), .d (.int .u64 w101.2.2.2.2.1), .d (.int .i64 w101.2.2.2.2.2)])], 1⟩ _
  obtain ⟨r103_0, cr103_0, h⟩ := bindS h
  have h := Option.some.inj h
  subst h
  exact At.fin hm ht ⟨[(1, .call [0] [] (f137_sip_state_end_out r103_0))], [], [], [4], []⟩ [FnOK Go.Proofs.Try.prog 137 (f137_sip_state_end_in w101.1 w101.2.1 w101.2.2.1 w101.2.2.2.1 w101.2.2.2.2.1 w101.2.2.2.2.2) (f137_sip_state_end_out r103_0)] (by kernel_rfl) ⟨(f137_sip_state_end_ok n w101.1 w101.2.1 w101.2.2.1 w101.2.2.2.1 w101.2.2.2.2.1 w101.2.2.2.2.2 r103_0 cr103_0), trivial⟩
/-! brougham/cookie.sum -/
def f75_cookie_sum_in (k_0 : Int) (k_1 : Int) (a_0 : Int) (a_1 : Int) (a_2 : Int) (a_3 : Int) (epoch : Int) (size : Int) : Inn := ⟨[.agg [.d (.int .u64 k_0), .d (.int .u64 k_1)], .agg [.d (.int .i64 a_0), .d (.int .u16 a_1), .d (.int .u16 a_2), .d (.int .u32 a_3)], .c (.d (.int .u32 epoch)), .c (.d (.int .u32 size))], [], [], 0⟩
def f75_cookie_sum_out (r : Int) : Out := ⟨.one (.c (.d (.int .u32 r))), [], [], 0⟩
def f75_cookie_sum (n : Nat) (k_0 : Int) (k_1 : Int) (a_0 : Int) (a_1 : Int) (a_2 : Int) (a_3 : Int) (epoch : Int) (size : Int) : Option (Int) :=
  (f79_pack_W (IntKind.wrap .u32 a_0)).bind fun r39_0 =>
  (f80_pack_H a_1).bind fun r39_1 =>
  (f80_pack_H a_2).bind fun r39_2 =>
  (f79_pack_W a_3).bind fun r39_3 =>
  (f79_pack_W epoch).bind fun r39_4 =>
  (f79_pack_W size).bind fun r39_5 =>
  (f78_pack_Put n [] [r39_0, r39_1, r39_2, r39_3, r39_4, r39_5]).bind fun r39_6 =>
  (f124_sip_Sum n k_0 k_1 [r39_6]).bind fun r62_0 =>
  some (bits .and .u32 (IntKind.wrap .u32 r62_0) 16777215)
theorem f75_cookie_sum_ok (n : Nat) (k_0 : Int) (k_1 : Int) (a_0 : Int) (a_1 : Int) (a_2 : Int) (a_3 : Int) (epoch : Int) (size : Int) (r : Int) (h : f75_cookie_sum n k_0 k_1 a_0 a_1 a_2 a_3 epoch size = some r) : FnOK Go.Proofs.Try.prog 75 (f75_cookie_sum_in k_0 k_1 a_0 a_1 a_2 a_3 epoch size) (f75_cookie_sum_out r) := by
  unfold f75_cookie_sum at h
  refine At.fn (r := 0) Go.Proofs.Try.func75 rfl (by kernel_rfl) rfl rfl (by kernel_rfl) ?_
  show At Go.Proofs.Try.prog Go.Proofs.Try.f75 0 0 ⟨[(0, .one (.agg [.d (.int .u64 k_0), .d (.int .u64 k_1)])), (1, .one (.agg [.d (.int .i64 a_0), .d (.int .u16 a_1), .d (.int .u16 a_2), .d (.int .u32 a_3)])), (2, .one (.c (.d (.int .u32 epoch)))), (3, .one (.c (.d (.int .u32 size))))], [], [], 0⟩ _
  refine At.step hm ht ⟨[], [], [], [2, 3, 4, 5], [0, 1]⟩ 1 ⟨[(2, .one (.c (.d (.int .u32 epoch)))), (3, .one (.c (.d (.int .u32 size)))), (4, .one (.c (.ptr 0 0))), (5, .one (.c (.ptr 1 0)))], [], [(0, [.d (.int .u64 k_0), .d (.int .u64 k_1)]), (1, [.d (.int .i64 a_0), .d (.int .u16 a_1), .d (.int .u16 a_2), .d (.int .u32 a_3)])], 2⟩ [] (by kernel_rfl) trivial ?_
  obtain ⟨r39_0, cr39_0, h⟩ := bindS h
  obtain ⟨r39_1, cr39_1, h⟩ := bindS h
  obtain ⟨r39_2, cr39_2, h⟩ := bindS h
  obtain ⟨r39_3, cr39_3, h⟩ := bindS h
  obtain ⟨r39_4, cr39_4, h⟩ := bindS h
  obtain ⟨r39_5, cr39_5, h⟩ := bindS h
  obtain ⟨r39_6, cr39_6, h⟩ := bindS h
  refine At.step hm ht ⟨[(3, .call [] [] (f79_pack_W_out r39_0)), (6, .call [] [] (f80_pack_H_out r39_1)), (9, .call [] [] (f80_pack_H_out r39_2)), (12, .call [] [] (f79_pack_W_out r39_3)), (14, .call [] [] (f79_pack_W_out r39_4)), (16, .call [] [] (f79_pack_W_out r39_5)), (18, .call [] [(0, 0, (.int .u8))] (f78_pack_Put_out r39_6))], [], [], [4, 9], [0, 20]⟩ 2 ⟨[(4, .one (.c (.ptr 0 0))), (9, .one (.c (.own 1 (.int .u8) r39_6)))], [(1, some ⟨5, 0⟩)], [(0, [.d (.int .u64 k_0), .d (.int .u64 k_1)])], 2⟩ [FnOK Go.Proofs.Try.prog 79 (f79_pack_W_in (IntKind.wrap .u32 a_0)) (f79_pack_W_out r39_0), FnOK Go.Proofs.Try.prog 80 (f80_pack_H_in a_1) (f80_pack_H_out r39_1), FnOK Go.Proofs.Try.prog 80 (f80_pack_H_in a_2) (f80_pack_H_out r39_2), FnOK Go.Proofs.Try.prog 79 (f79_pack_W_in a_3) (f79_pack_W_out r39_3), FnOK Go.Proofs.Try.prog 79 (f79_pack_W_in epoch) (f79_pack_W_out r39_4), FnOK Go.Proofs.Try.prog 79 (f79_pack_W_in size) (f79_pack_W_out r39_5), FnOK Go.Proofs.Try.prog 78 (f78_pack_Put_in [] [r39_0, r39_1, r39_2, r39_3, r39_4, r39_5]) (f78_pack_Put_out r39_6)] (by kernel_rfl) ⟨(f79_pack_W_ok (IntKind.wrap .u32 a_0) r39_0 cr39_0), (f80_pack_H_ok a_1 r39_1 cr39_1), (f80_pack_H_ok a_2 r39_2 cr39_2), (f79_pack_W_ok a_3 r39_3 cr39_3), (f79_pack_W_ok epoch r39_4 cr39_4), (f79_pack_W_ok size r39_5 cr39_5), (f78_pack_Put_ok n [] [r39_0, r39_1, r39_2, r39_3, r39_4, r39_5] r39_6 cr39_6), trivial⟩ ?_
  obtain ⟨r62_0, cr62_0, h⟩ := bindS h
  have h := Option.some.inj h
  subst h
  exact At.fin hm ht ⟨[(3, .call [] [] (f124_sip_Sum_out r62_0))], [], [], [8], []⟩ [FnOK Go.Proofs.Try.prog 124 (f124_sip_Sum_in k_0 k_1 [r39_6]) (f124_sip_Sum_out r62_0)] (by kernel_rfl) ⟨(f124_sip_Sum_ok n k_0 k_1 [r39_6] r62_0 cr62_0), trivial⟩
/-! brougham/cookie.Make -/
def f16_cookie_Make_in (k_0 : Int) (k_1 : Int) (a_0 : Int) (a_1 : Int) (a_2 : Int) (a_3 : Int) (tick : Int) (mss : Int) : Inn := ⟨[.agg [.d (.int .u64 k_0), .d (.int .u64 k_1)], .agg [.d (.int .i64 a_0), .d (.int .u16 a_1), .d (.int .u16 a_2), .d (.int .u32 a_3)], .c (.d (.int .i64 tick)), .c (.d (.int .i64 mss))], [], [], 0⟩
def f16_cookie_Make_out (r : Int) : Out := ⟨.one (.c (.d (.int .u32 r))), [], [], 0⟩
def f16_cookie_Make (n : Nat) (k_0 : Int) (k_1 : Int) (a_0 : Int) (a_1 : Int) (a_2 : Int) (a_3 : Int) (tick : Int) (mss : Int) : Option (Int) :=
  (f74_cookie_epoch tick).bind fun r9_0 =>
  (f17_cookie_Size n mss).bind fun r9_1 =>
  (f77_cookie_index n r9_1).bind fun r9_2 =>
  (f75_cookie_sum n k_0 k_1 a_0 a_1 a_2 a_3 r9_0 r9_2).bind fun r37_0 =>
  some (bits .or .u32 (bits .or .u32 (IntKind.wrap .u32 ((Int.tmod r9_0 32) * 2 ^ 27)) (IntKind.wrap .u32 (r9_2 * 2 ^ 24))) r37_0)
theorem f16_cookie_Make_ok (n : Nat) (k_0 : Int) (k_1 : Int) (a_0 : Int) (a_1 : Int) (a_2 : Int) (a_3 : Int) (tick : Int) (mss : Int) (r : Int) (h : f16_cookie_Make n k_0 k_1 a_0 a_1 a_2 a_3 tick mss = some r) : FnOK Go.Proofs.Try.prog 16 (f16_cookie_Make_in k_0 k_1 a_0 a_1 a_2 a_3 tick mss) (f16_cookie_Make_out r) := by
  unfold f16_cookie_Make at h
  refine At.fn (r := 0) Go.Proofs.Try.func16 rfl (by kernel_rfl) rfl rfl (by kernel_rfl) ?_
  show At Go.Proofs.Try.prog Go.Proofs.Try.f16 0 0 ⟨[(0, .one (.agg [.d (.int .u64 k_0), .d (.int .u64 k_1)])), (1, .one (.agg [.d (.int .i64 a_0), .d (.int .u16 a_1), .d (.int .u16 a_2), .d (.int .u32 a_3)])), (2, .one (.c (.d (.int .i64 tick)))), (3, .one (.c (.d (.int .i64 mss))))], [], [], 0⟩ _
  refine At.step hm ht ⟨[], [], [], [2, 3, 4, 5], [0, 1]⟩ 1 ⟨[(2, .one (.c (.d (.int .i64 tick)))), (3, .one (.c (.d (.int .i64 mss)))), (4, .one (.c (.ptr 0 0))), (5, .one (.c (.ptr 1 0)))], [], [(0, [.d (.int .u64 k_0), .d (.int .u64 k_1)]), (1, [.d (.int .i64 a_0), .d (.int .u16 a_1), .d (.int .u16 a_2), .d (.int .u32 a_3)])], 2⟩ [] (by kernel_rfl) trivial ?_
  obtain ⟨r9_0, cr9_0, h⟩ := bindS h
  obtain ⟨r9_1, cr9_1, h⟩ := bindS h
  obtain ⟨r9_2, cr9_2, h⟩ := bindS h
  refine At.step hm ht ⟨[(1, .call [] [] (f74_cookie_epoch_out r9_0)), (3, .call [] [] (f17_cookie_Size_out r9_1)), (4, .call [] [] (f77_cookie_index_out r9_2))], [], [], [4, 5, 9, 10], [0, 1]⟩ 2 ⟨[(4, .one (.c (.ptr 0 0))), (5, .one (.c (.ptr 1 0))), (9, .one (.c (.d (.int .u32 r9_0)))), (10, .one (.c (.d (.int .u32 r9_2))))], [], [(0, [.d (.int .u64 k_0), .d (.int .u64 k_1)]), (1, [.d (.int .i64 a_0), .d (.int .u16 a_1), .d (.int .u16 a_2), .d (.int .u32 a_3)])], 2⟩ [FnOK Go.Proofs.Try.prog 74 (f74_cookie_epoch_in tick) (f74_cookie_epoch_out r9_0), FnOK Go.Proofs.Try.prog 17 (f17_cookie_Size_in mss) (f17_cookie_Size_out r9_1), FnOK Go.Proofs.Try.prog 77 (f77_cookie_index_in r9_1) (f77_cookie_index_out r9_2)] (by kernel_rfl) ⟨(f74_cookie_epoch_ok tick r9_0 cr9_0), (f17_cookie_Size_ok n mss r9_1 cr9_1), (f77_cookie_index_ok n r9_1 r9_2 cr9_2), trivial⟩ ?_
  obtain ⟨r37_0, cr37_0, h⟩ := bindS h
  have h := Option.some.inj h
  subst h
  exact At.fin hm ht ⟨[(10, .call [] [] (f75_cookie_sum_out r37_0))], [], [], [8], []⟩ [(32 : Int) ≠ 0, (0 : Int) ≤ 27, (0 : Int) ≤ 24, FnOK Go.Proofs.Try.prog 75 (f75_cookie_sum_in k_0 k_1 a_0 a_1 a_2 a_3 r9_0 r9_2) (f75_cookie_sum_out r37_0)] (by kernel_rfl) ⟨(by decide), (by decide), (by decide), (f75_cookie_sum_ok n k_0 k_1 a_0 a_1 a_2 a_3 r9_0 r9_2 r37_0 cr37_0), trivial⟩
/-! brougham/cookie.Check -/
def f15_cookie_Check_in (k_0 : Int) (k_1 : Int) (a_0 : Int) (a_1 : Int) (a_2 : Int) (a_3 : Int) (tick : Int) (number : Int) : Inn := ⟨[.agg [.d (.int .u64 k_0), .d (.int .u64 k_1)], .agg [.d (.int .i64 a_0), .d (.int .u16 a_1), .d (.int .u16 a_2), .d (.int .u32 a_3)], .c (.d (.int .i64 tick)), .c (.d (.int .u32 number))], [], [], 0⟩
def f15_cookie_Check_out (r : Int × Bool) : Out := ⟨.tup [.c (.d (.int .i64 r.1)), .c (.d (.bool r.2))], [], [], 0⟩
def f15_cookie_Check_L4 : Nat → Int → Int → Int → Int → Int → Int → Int → Int → Int → Int → Int → Option ((Int × Bool) ⊕ (Unit))
  | 0, _, _, _, _, _, _, _, _, _, _, _ => none
  | n + 1, tick, number, now, i, back, k_0, k_1, a_0, a_1, a_2, a_3 =>
    if (decide ((back : Int) < 2)) = true then
      if ((back : Int) == 0) = true then
        if (((Int.tmod (IntKind.wrap .u32 (now - back)) 32) : Int) == (Int.fdiv number (2 ^ 27))) = true then
          (f75_cookie_sum n k_0 k_1 a_0 a_1 a_2 a_3 (IntKind.wrap .u32 (now - back)) i).bind fun r120_0 =>
          if ((r120_0 : Int) == (bits .and .u32 number 16777215)) = true then
            (f76_cookie_sizes).bind fun r121_0 =>
            if (0 : Int) ≤ i ∧ i < 8 then
            some (.inl ((([r121_0.1, r121_0.2.1, r121_0.2.2.1, r121_0.2.2.2.1, r121_0.2.2.2.2.1, r121_0.2.2.2.2.2.1, r121_0.2.2.2.2.2.2.1, r121_0.2.2.2.2.2.2.2] : List Int).getD i.toNat 0), true))
            else none
          else
            f15_cookie_Check_L4 n tick number now i (IntKind.wrap .u32 (back + 1)) k_0 k_1 a_0 a_1 a_2 a_3
        else
          f15_cookie_Check_L4 n tick number now i (IntKind.wrap .u32 (back + 1)) k_0 k_1 a_0 a_1 a_2 a_3
      else
        if (decide ((tick : Int) ≥ 64)) = true then
          if (((Int.tmod (IntKind.wrap .u32 (now - back)) 32) : Int) == (Int.fdiv number (2 ^ 27))) = true then
            (f75_cookie_sum n k_0 k_1 a_0 a_1 a_2 a_3 (IntKind.wrap .u32 (now - back)) i).bind fun r125_0 =>
            if ((r125_0 : Int) == (bits .and .u32 number 16777215)) = true then
              (f76_cookie_sizes).bind fun r126_0 =>
              if (0 : Int) ≤ i ∧ i < 8 then
              some (.inl ((([r126_0.1, r126_0.2.1, r126_0.2.2.1, r126_0.2.2.2.1, r126_0.2.2.2.2.1, r126_0.2.2.2.2.2.1, r126_0.2.2.2.2.2.2.1, r126_0.2.2.2.2.2.2.2] : List Int).getD i.toNat 0), true))
              else none
            else
              f15_cookie_Check_L4 n tick number now i (IntKind.wrap .u32 (back + 1)) k_0 k_1 a_0 a_1 a_2 a_3
          else
            f15_cookie_Check_L4 n tick number now i (IntKind.wrap .u32 (back + 1)) k_0 k_1 a_0 a_1 a_2 a_3
        else
          some (.inr ())
    else
      some (.inr ())
def f15_cookie_Check_L4_k (w : (Int × Bool) ⊕ (Unit)) (o : Out) : Prop := match w with
  | .inl e => o = f15_cookie_Check_out e
  | .inr e => At Go.Proofs.Try.prog Go.Proofs.Try.f15 0 9 ⟨[], [], [], 0⟩ o
theorem f15_cookie_Check_L4_ok (n : Nat) : ∀ (tick : Int) (number : Int) (now : Int) (i : Int) (back : Int) (k_0 : Int) (k_1 : Int) (a_0 : Int) (a_1 : Int) (a_2 : Int) (a_3 : Int) (w : (Int × Bool) ⊕ (Unit)) (h : f15_cookie_Check_L4 n tick number now i back k_0 k_1 a_0 a_1 a_2 a_3 = some w) (o : Out) (hk : f15_cookie_Check_L4_k w o), At Go.Proofs.Try.prog Go.Proofs.Try.f15 0 4 ⟨[(2, .one (.c (.d (.int .i64 tick)))), (3, .one (.c (.d (.int .u32 number)))), (4, .one (.c (.ptr 0 0))), (5, .one (.c (.ptr 1 0))), (10, .one (.c (.d (.int .u32 now)))), (11, .one (.c (.d (.int .u32 i)))), (12, .one (.c (.d (.int .u32 back))))], [], [(0, [.d (.int .u64 k_0), .d (.int .u64 k_1)]), (1, [.d (.int .i64 a_0), .d (.int .u16 a_1), .d (.int .u16 a_2), .d (.int .u32 a_3)])], 2⟩ o := by
  induction n with
  | zero => intro tick number now i back k_0 k_1 a_0 a_1 a_2 a_3 w h; rw [f15_cookie_Check_L4] at h; cases h
  | succ n ih =>
    intro tick number now i back k_0 k_1 a_0 a_1 a_2 a_3 w h o hk
    rw [f15_cookie_Check_L4] at h
    rcases iteS h with ⟨b118_2, h⟩ | ⟨b118_2, h⟩
    · rcases iteS h with ⟨b118_5, h⟩ | ⟨b118_5, h⟩
      · refine At.step hm ht ⟨[(2, .b true), (5, .b true)], [true], [], [2, 3, 4, 5, 10, 11, 12], [0, 1]⟩ 6 ⟨[(2, .one (.c (.d (.int .i64 tick)))), (3, .one (.c (.d (.int .u32 number)))), (4, .one (.c (.ptr 0 0))), (5, .one (.c (.ptr 1 0))), (10, .one (.c (.d (.int .u32 now)))), (11, .one (.c (.d (.int .u32 i)))), (12, .one (.c (.d (.int .u32 back))))], [], [(0, [.d (.int .u64 k_0), .d (.int .u64 k_1)]), (1, [.d (.int .i64 a_0), .d (.int .u16 a_1), .d (.int .u16 a_2), .d (.int .u32 a_3)])], 2⟩ [(decide ((back : Int) < 2)) = true, ((back : Int) == 0) = true, true = true] (by kernel_rfl) ⟨b118_2, b118_5, rfl, trivial⟩ ?_
        refine At.step hm ht ⟨[], [], [], [2, 3, 4, 5, 10, 11, 12, 13], [0, 1]⟩ 7 ⟨[(2, .one (.c (.d (.int .i64 tick)))), (3, .one (.c (.d (.int .u32 number)))), (4, .one (.c (.ptr 0 0))), (5, .one (.c (.ptr 1 0))), (10, .one (.c (.d (.int .u32 now)))), (11, .one (.c (.d (.int .u32 i)))), (12, .one (.c (.d (.int .u32 back)))), (13, .one (.c (.d (.int .u32 (IntKind.wrap .u32 (now - back))))))], [], [(0, [.d (.int .u64 k_0), .d (.int .u64 k_1)]), (1, [.d (.int .i64 a_0), .d (.int .u16 a_1), .d (.int .u16 a_2), .d (.int .u32 a_3)])], 2⟩ [] (by kernel_rfl) trivial ?_
        rcases iteS h with ⟨b120_5, h⟩ | ⟨b120_5, h⟩
        · obtain ⟨r120_0, cr120_0, h⟩ := bindS h
          rcases iteS h with ⟨b120_e0, h⟩ | ⟨b120_e0, h⟩
          · refine At.step hm ht ⟨[(5, .b true), (10, .call [] [] (f75_cookie_sum_out r120_0))], [true], [], [11], []⟩ 8 ⟨[(11, .one (.c (.d (.int .u32 i))))], [], [], 0⟩ [(32 : Int) ≠ 0, (0 : Int) ≤ 27, (((Int.tmod (IntKind.wrap .u32 (now - back)) 32) : Int) == (Int.fdiv number (2 ^ 27))) = true, FnOK Go.Proofs.Try.prog 75 (f75_cookie_sum_in k_0 k_1 a_0 a_1 a_2 a_3 (IntKind.wrap .u32 (now - back)) i) (f75_cookie_sum_out r120_0), ((r120_0 : Int) == (bits .and .u32 number 16777215)) = true] (by kernel_rfl) ⟨(by decide), (by decide), b120_5, (f75_cookie_sum_ok n k_0 k_1 a_0 a_1 a_2 a_3 (IntKind.wrap .u32 (now - back)) i r120_0 cr120_0), b120_e0, trivial⟩ ?_
            obtain ⟨r121_0, cr121_0, h⟩ := bindS h
            obtain ⟨g121_1, h⟩ := ifS h
            have h := Option.some.inj h
            subst h
            have hk : o = f15_cookie_Check_out ((([r121_0.1, r121_0.2.1, r121_0.2.2.1, r121_0.2.2.2.1, r121_0.2.2.2.2.1, r121_0.2.2.2.2.2.1, r121_0.2.2.2.2.2.2.1, r121_0.2.2.2.2.2.2.2] : List Int).getD i.toNat 0), true) := hk
            subst hk
            exact At.fin hm ht ⟨[(0, .call [] [] (f76_cookie_sizes_out r121_0))], [], [], [8, 9], []⟩ [FnOK Go.Proofs.Try.prog 76 (f76_cookie_sizes_in) (f76_cookie_sizes_out r121_0), (0 : Int) ≤ i ∧ i < 8] (by kernel_rfl) ⟨(f76_cookie_sizes_ok r121_0 cr121_0), g121_1, trivial⟩
          · refine At.step hm ht ⟨[(5, .b true), (10, .call [] [] (f75_cookie_sum_out r120_0))], [false], [], [2, 3, 4, 5, 10, 11, 12], [0, 1]⟩ 5 ⟨[(2, .one (.c (.d (.int .i64 tick)))), (3, .one (.c (.d (.int .u32 number)))), (4, .one (.c (.ptr 0 0))), (5, .one (.c (.ptr 1 0))), (10, .one (.c (.d (.int .u32 now)))), (11, .one (.c (.d (.int .u32 i)))), (12, .one (.c (.d (.int .u32 back))))], [], [(0, [.d (.int .u64 k_0), .d (.int .u64 k_1)]), (1, [.d (.int .i64 a_0), .d (.int .u16 a_1), .d (.int .u16 a_2), .d (.int .u32 a_3)])], 2⟩ [(32 : Int) ≠ 0, (0 : Int) ≤ 27, (((Int.tmod (IntKind.wrap .u32 (now - back)) 32) : Int) == (Int.fdiv number (2 ^ 27))) = true, FnOK Go.Proofs.Try.prog 75 (f75_cookie_sum_in k_0 k_1 a_0 a_1 a_2 a_3 (IntKind.wrap .u32 (now - back)) i) (f75_cookie_sum_out r120_0), ((r120_0 : Int) == (bits .and .u32 number 16777215)) = false] (by kernel_rfl) ⟨(by decide), (by decide), b120_5, (f75_cookie_sum_ok n k_0 k_1 a_0 a_1 a_2 a_3 (IntKind.wrap .u32 (now - back)) i r120_0 cr120_0), b120_e0, trivial⟩ ?_
            refine At.step hm ht ⟨[], [], [], [2, 3, 4, 5, 10, 11, 12], [0, 1]⟩ 4 ⟨[(2, .one (.c (.d (.int .i64 tick)))), (3, .one (.c (.d (.int .u32 number)))), (4, .one (.c (.ptr 0 0))), (5, .one (.c (.ptr 1 0))), (10, .one (.c (.d (.int .u32 now)))), (11, .one (.c (.d (.int .u32 i)))), (12, .one (.c (.d (.int .u32 (IntKind.wrap .u32 (back + 1))))))], [], [(0, [.d (.int .u64 k_0), .d (.int .u64 k_1)]), (1, [.d (.int .i64 a_0), .d (.int .u16 a_1), .d (.int .u16 a_2), .d (.int .u32 a_3)])], 2⟩ [] (by kernel_rfl) trivial ?_
            exact ih tick number now i (IntKind.wrap .u32 (back + 1)) k_0 k_1 a_0 a_1 a_2 a_3 w h o hk
        · refine At.step hm ht ⟨[(5, .b false)], [false], [], [2, 3, 4, 5, 10, 11, 12], [0, 1]⟩ 5 ⟨[(2, .one (.c (.d (.int .i64 tick)))), (3, .one (.c (.d (.int .u32 number)))), (4, .one (.c (.ptr 0 0))), (5, .one (.c (.ptr 1 0))), (10, .one (.c (.d (.int .u32 now)))), (11, .one (.c (.d (.int .u32 i)))), (12, .one (.c (.d (.int .u32 back))))], [], [(0, [.d (.int .u64 k_0), .d (.int .u64 k_1)]), (1, [.d (.int .i64 a_0), .d (.int .u16 a_1), .d (.int .u16 a_2), .d (.int .u32 a_3)])], 2⟩ [(32 : Int) ≠ 0, (0 : Int) ≤ 27, (((Int.tmod (IntKind.wrap .u32 (now - back)) 32) : Int) == (Int.fdiv number (2 ^ 27))) = false, false = false] (by kernel_rfl) ⟨(by decide), (by decide), b120_5, rfl, trivial⟩ ?_
          refine At.step hm ht ⟨[], [], [], [2, 3, 4, 5, 10, 11, 12], [0, 1]⟩ 4 ⟨[(2, .one (.c (.d (.int .i64 tick)))), (3, .one (.c (.d (.int .u32 number)))), (4, .one (.c (.ptr 0 0))), (5, .one (.c (.ptr 1 0))), (10, .one (.c (.d (.int .u32 now)))), (11, .one (.c (.d (.int .u32 i)))), (12, .one (.c (.d (.int .u32 (IntKind.wrap .u32 (back + 1))))))], [], [(0, [.d (.int .u64 k_0), .d (.int .u64 k_1)]), (1, [.d (.int .i64 a_0), .d (.int .u16 a_1), .d (.int .u16 a_2), .d (.int .u32 a_3)])], 2⟩ [] (by kernel_rfl) trivial ?_
          exact ih tick number now i (IntKind.wrap .u32 (back + 1)) k_0 k_1 a_0 a_1 a_2 a_3 w h o hk
      · rcases iteS h with ⟨b118_e0, h⟩ | ⟨b118_e0, h⟩
        · refine At.step hm ht ⟨[(2, .b true), (5, .b false)], [true], [], [2, 3, 4, 5, 10, 11, 12], [0, 1]⟩ 6 ⟨[(2, .one (.c (.d (.int .i64 tick)))), (3, .one (.c (.d (.int .u32 number)))), (4, .one (.c (.ptr 0 0))), (5, .one (.c (.ptr 1 0))), (10, .one (.c (.d (.int .u32 now)))), (11, .one (.c (.d (.int .u32 i)))), (12, .one (.c (.d (.int .u32 back))))], [], [(0, [.d (.int .u64 k_0), .d (.int .u64 k_1)]), (1, [.d (.int .i64 a_0), .d (.int .u16 a_1), .d (.int .u16 a_2), .d (.int .u32 a_3)])], 2⟩ [(decide ((back : Int) < 2)) = true, ((back : Int) == 0) = false, (decide ((tick : Int) ≥ 64)) = true] (by kernel_rfl) ⟨b118_2, b118_5, b118_e0, trivial⟩ ?_
          refine At.step hm ht ⟨[], [], [], [2, 3, 4, 5, 10, 11, 12, 13], [0, 1]⟩ 7 ⟨[(2, .one (.c (.d (.int .i64 tick)))), (3, .one (.c (.d (.int .u32 number)))), (4, .one (.c (.ptr 0 0))), (5, .one (.c (.ptr 1 0))), (10, .one (.c (.d (.int .u32 now)))), (11, .one (.c (.d (.int .u32 i)))), (12, .one (.c (.d (.int .u32 back)))), (13, .one (.c (.d (.int .u32 (IntKind.wrap .u32 (now - back))))))], [], [(0, [.d (.int .u64 k_0), .d (.int .u64 k_1)]), (1, [.d (.int .i64 a_0), .d (.int .u16 a_1), .d (.int .u16 a_2), .d (.int .u32 a_3)])], 2⟩ [] (by kernel_rfl) trivial ?_
          rcases iteS h with ⟨b125_5, h⟩ | ⟨b125_5, h⟩
          · obtain ⟨r125_0, cr125_0, h⟩ := bindS h
            rcases iteS h with ⟨b125_e0, h⟩ | ⟨b125_e0, h⟩
            · refine At.step hm ht ⟨[(5, .b true), (10, .call [] [] (f75_cookie_sum_out r125_0))], [true], [], [11], []⟩ 8 ⟨[(11, .one (.c (.d (.int .u32 i))))], [], [], 0⟩ [(32 : Int) ≠ 0, (0 : Int) ≤ 27, (((Int.tmod (IntKind.wrap .u32 (now - back)) 32) : Int) == (Int.fdiv number (2 ^ 27))) = true, FnOK Go.Proofs.Try.prog 75 (f75_cookie_sum_in k_0 k_1 a_0 a_1 a_2 a_3 (IntKind.wrap .u32 (now - back)) i) (f75_cookie_sum_out r125_0), ((r125_0 : Int) == (bits .and .u32 number 16777215)) = true] (by kernel_rfl) ⟨(by decide), (by decide), b125_5, (f75_cookie_sum_ok n k_0 k_1 a_0 a_1 a_2 a_3 (IntKind.wrap .u32 (now - back)) i r125_0 cr125_0), b125_e0, trivial⟩ ?_
              obtain ⟨r126_0, cr126_0, h⟩ := bindS h
              obtain ⟨g126_1, h⟩ := ifS h
              have h := Option.some.inj h
              subst h
              have hk : o = f15_cookie_Check_out ((([r126_0.1, r126_0.2.1, r126_0.2.2.1, r126_0.2.2.2.1, r126_0.2.2.2.2.1, r126_0.2.2.2.2.2.1, r126_0.2.2.2.2.2.2.1, r126_0.2.2.2.2.2.2.2] : List Int).getD i.toNat 0), true) := hk
              subst hk
              exact At.fin hm ht ⟨[(0, .call [] [] (f76_cookie_sizes_out r126_0))], [], [], [8, 9], []⟩ [FnOK Go.Proofs.Try.prog 76 (f76_cookie_sizes_in) (f76_cookie_sizes_out r126_0), (0 : Int) ≤ i ∧ i < 8] (by kernel_rfl) ⟨(f76_cookie_sizes_ok r126_0 cr126_0), g126_1, trivial⟩
            · refine At.step hm ht ⟨[(5, .b true), (10, .call [] [] (f75_cookie_sum_out r125_0))], [false], [], [2, 3, 4, 5, 10, 11, 12], [0, 1]⟩ 5 ⟨[(2, .one (.c (.d (.int .i64 tick)))), (3, .one (.c (.d (.int .u32 number)))), (4, .one (.c (.ptr 0 0))), (5, .one (.c (.ptr 1 0))), (10, .one (.c (.d (.int .u32 now)))), (11, .one (.c (.d (.int .u32 i)))), (12, .one (.c (.d (.int .u32 back))))], [], [(0, [.d (.int .u64 k_0), .d (.int .u64 k_1)]), (1, [.d (.int .i64 a_0), .d (.int .u16 a_1), .d (.int .u16 a_2), .d (.int .u32 a_3)])], 2⟩ [(32 : Int) ≠ 0, (0 : Int) ≤ 27, (((Int.tmod (IntKind.wrap .u32 (now - back)) 32) : Int) == (Int.fdiv number (2 ^ 27))) = true, FnOK Go.Proofs.Try.prog 75 (f75_cookie_sum_in k_0 k_1 a_0 a_1 a_2 a_3 (IntKind.wrap .u32 (now - back)) i) (f75_cookie_sum_out r125_0), ((r125_0 : Int) == (bits .and .u32 number 16777215)) = false] (by kernel_rfl) ⟨(by decide), (by decide), b125_5, (f75_cookie_sum_ok n k_0 k_1 a_0 a_1 a_2 a_3 (IntKind.wrap .u32 (now - back)) i r125_0 cr125_0), b125_e0, trivial⟩ ?_
              refine At.step hm ht ⟨[], [], [], [2, 3, 4, 5, 10, 11, 12], [0, 1]⟩ 4 ⟨[(2, .one (.c (.d (.int .i64 tick)))), (3, .one (.c (.d (.int .u32 number)))), (4, .one (.c (.ptr 0 0))), (5, .one (.c (.ptr 1 0))), (10, .one (.c (.d (.int .u32 now)))), (11, .one (.c (.d (.int .u32 i)))), (12, .one (.c (.d (.int .u32 (IntKind.wrap .u32 (back + 1))))))], [], [(0, [.d (.int .u64 k_0), .d (.int .u64 k_1)]), (1, [.d (.int .i64 a_0), .d (.int .u16 a_1), .d (.int .u16 a_2), .d (.int .u32 a_3)])], 2⟩ [] (by kernel_rfl) trivial ?_
              exact ih tick number now i (IntKind.wrap .u32 (back + 1)) k_0 k_1 a_0 a_1 a_2 a_3 w h o hk
          · refine At.step hm ht ⟨[(5, .b false)], [false], [], [2, 3, 4, 5, 10, 11, 12], [0, 1]⟩ 5 ⟨[(2, .one (.c (.d (.int .i64 tick)))), (3, .one (.c (.d (.int .u32 number)))), (4, .one (.c (.ptr 0 0))), (5, .one (.c (.ptr 1 0))), (10, .one (.c (.d (.int .u32 now)))), (11, .one (.c (.d (.int .u32 i)))), (12, .one (.c (.d (.int .u32 back))))], [], [(0, [.d (.int .u64 k_0), .d (.int .u64 k_1)]), (1, [.d (.int .i64 a_0), .d (.int .u16 a_1), .d (.int .u16 a_2), .d (.int .u32 a_3)])], 2⟩ [(32 : Int) ≠ 0, (0 : Int) ≤ 27, (((Int.tmod (IntKind.wrap .u32 (now - back)) 32) : Int) == (Int.fdiv number (2 ^ 27))) = false, false = false] (by kernel_rfl) ⟨(by decide), (by decide), b125_5, rfl, trivial⟩ ?_
            refine At.step hm ht ⟨[], [], [], [2, 3, 4, 5, 10, 11, 12], [0, 1]⟩ 4 ⟨[(2, .one (.c (.d (.int .i64 tick)))), (3, .one (.c (.d (.int .u32 number)))), (4, .one (.c (.ptr 0 0))), (5, .one (.c (.ptr 1 0))), (10, .one (.c (.d (.int .u32 now)))), (11, .one (.c (.d (.int .u32 i)))), (12, .one (.c (.d (.int .u32 (IntKind.wrap .u32 (back + 1))))))], [], [(0, [.d (.int .u64 k_0), .d (.int .u64 k_1)]), (1, [.d (.int .i64 a_0), .d (.int .u16 a_1), .d (.int .u16 a_2), .d (.int .u32 a_3)])], 2⟩ [] (by kernel_rfl) trivial ?_
            exact ih tick number now i (IntKind.wrap .u32 (back + 1)) k_0 k_1 a_0 a_1 a_2 a_3 w h o hk
        · refine At.step hm ht ⟨[(2, .b true), (5, .b false)], [false], [], [], []⟩ 9 ⟨[], [], [], 0⟩ [(decide ((back : Int) < 2)) = true, ((back : Int) == 0) = false, (decide ((tick : Int) ≥ 64)) = false] (by kernel_rfl) ⟨b118_2, b118_5, b118_e0, trivial⟩ ?_
          have h := Option.some.inj h
          subst h
          exact hk
    · refine At.step hm ht ⟨[(2, .b false)], [false], [], [], []⟩ 9 ⟨[], [], [], 0⟩ [(decide ((back : Int) < 2)) = false, false = false] (by kernel_rfl) ⟨b118_2, rfl, trivial⟩ ?_
      have h := Option.some.inj h
      subst h
      exact hk
def f15_cookie_Check (n : Nat) (k_0 : Int) (k_1 : Int) (a_0 : Int) (a_1 : Int) (a_2 : Int) (a_3 : Int) (tick : Int) (number : Int) : Option (Int × Bool) :=
  (f74_cookie_epoch tick).bind fun r115_0 =>
  (f15_cookie_Check_L4 n tick number r115_0 (bits .and .u32 (Int.fdiv number (2 ^ 24)) 7) 0 k_0 k_1 a_0 a_1 a_2 a_3).bind fun w129 =>
  match w129 with
  | .inl e130 =>
    some (e130.1, e130.2)
  | .inr e131 =>
    some (0, false)
theorem f15_cookie_Check_ok (n : Nat) (k_0 : Int) (k_1 : Int) (a_0 : Int) (a_1 : Int) (a_2 : Int) (a_3 : Int) (tick : Int) (number : Int) (r : Int × Bool) (h : f15_cookie_Check n k_0 k_1 a_0 a_1 a_2 a_3 tick number = some r) : FnOK Go.Proofs.Try.prog 15 (f15_cookie_Check_in k_0 k_1 a_0 a_1 a_2 a_3 tick number) (f15_cookie_Check_out r) := by
  unfold f15_cookie_Check at h
  refine At.fn (r := 0) Go.Proofs.Try.func15 rfl (by kernel_rfl) rfl rfl (by kernel_rfl) ?_
  show At Go.Proofs.Try.prog Go.Proofs.Try.f15 0 0 ⟨[(0, .one (.agg [.d (.int .u64 k_0), .d (.int .u64 k_1)])), (1, .one (.agg [.d (.int .i64 a_0), .d (.int .u16 a_1), .d (.int .u16 a_2), .d (.int .u32 a_3)])), (2, .one (.c (.d (.int .i64 tick)))), (3, .one (.c (.d (.int .u32 number))))], [], [], 0⟩ _
  refine At.step hm ht ⟨[], [], [], [2, 3, 4, 5], [0, 1]⟩ 1 ⟨[(2, .one (.c (.d (.int .i64 tick)))), (3, .one (.c (.d (.int .u32 number)))), (4, .one (.c (.ptr 0 0))), (5, .one (.c (.ptr 1 0)))], [], [(0, [.d (.int .u64 k_0), .d (.int .u64 k_1)]), (1, [.d (.int .i64 a_0), .d (.int .u16 a_1), .d (.int .u16 a_2), .d (.int .u32 a_3)])], 2⟩ [] (by kernel_rfl) trivial ?_
  obtain ⟨r115_0, cr115_0, h⟩ := bindS h
  refine At.step hm ht ⟨[(1, .call [] [] (f74_cookie_epoch_out r115_0))], [], [], [2, 3, 4, 5, 10], [0, 1]⟩ 2 ⟨[(2, .one (.c (.d (.int .i64 tick)))), (3, .one (.c (.d (.int .u32 number)))), (4, .one (.c (.ptr 0 0))), (5, .one (.c (.ptr 1 0))), (10, .one (.c (.d (.int .u32 r115_0))))], [], [(0, [.d (.int .u64 k_0), .d (.int .u64 k_1)]), (1, [.d (.int .i64 a_0), .d (.int .u16 a_1), .d (.int .u16 a_2), .d (.int .u32 a_3)])], 2⟩ [FnOK Go.Proofs.Try.prog 74 (f74_cookie_epoch_in tick) (f74_cookie_epoch_out r115_0)] (by kernel_rfl) ⟨(f74_cookie_epoch_ok tick r115_0 cr115_0), trivial⟩ ?_
  refine At.step hm ht ⟨[], [], [], [2, 3, 4, 5, 10, 11], [0, 1]⟩ 3 ⟨[(2, .one (.c (.d (.int .i64 tick)))), (3, .one (.c (.d (.int .u32 number)))), (4, .one (.c (.ptr 0 0))), (5, .one (.c (.ptr 1 0))), (10, .one (.c (.d (.int .u32 r115_0)))), (11, .one (.c (.d (.int .u32 (bits .and .u32 (Int.fdiv number (2 ^ 24)) 7)))))], [], [(0, [.d (.int .u64 k_0), .d (.int .u64 k_1)]), (1, [.d (.int .i64 a_0), .d (.int .u16 a_1), .d (.int .u16 a_2), .d (.int .u32 a_3)])], 2⟩ [(0 : Int) ≤ 24] (by kernel_rfl) ⟨(by decide), trivial⟩ ?_
  refine At.step hm ht ⟨[], [], [], [2, 3, 4, 5, 10, 11, 12], [0, 1]⟩ 4 ⟨[(2, .one (.c (.d (.int .i64 tick)))), (3, .one (.c (.d (.int .u32 number)))), (4, .one (.c (.ptr 0 0))), (5, .one (.c (.ptr 1 0))), (10, .one (.c (.d (.int .u32 r115_0)))), (11, .one (.c (.d (.int .u32 (bits .and .u32 (Int.fdiv number (2 ^ 24)) 7))))), (12, .one (.c (.d (.int .u32 0))))], [], [(0, [.d (.int .u64 k_0), .d (.int .u64 k_1)]), (1, [.d (.int .i64 a_0), .d (.int .u16 a_1), .d (.int .u16 a_2), .d (.int .u32 a_3)])], 2⟩ [] (by kernel_rfl) trivial ?_
  obtain ⟨w129, cw129, h⟩ := bindS h
  refine f15_cookie_Check_L4_ok n tick number r115_0 (bits .and .u32 (Int.fdiv number (2 ^ 24)) 7) 0 k_0 k_1 a_0 a_1 a_2 a_3 w129 cw129 _ ?_
  rcases w129 with e130 | e131
  · have h := Option.some.inj h
    subst h
    rfl
  · show At Go.Proofs.Try.prog Go.Proofs.Try.f15 0 9 ⟨[], [], [], 0⟩ _
    have h := Option.some.inj h
    subst h
    exact At.fin hm ht ⟨[], [], [], [8, 9], []⟩ [] (by kernel_rfl) trivial
/-! brougham/broughamlaw30.alive -/
def f18_broughamlaw30_alive_in : Inn := ⟨[], [], [], 0⟩
def f18_broughamlaw30_alive_out (r : Bool) : Out := ⟨.one (.c (.d (.bool r))), [], [], 0⟩
def f18_broughamlaw30_alive (n : Nat) : Option (Bool) :=
  (f16_cookie_Make n 1 0 1 80 5 7 100 100).bind fun r136_0 =>
  (f15_cookie_Check n 1 0 1 80 5 7 130 r136_0).bind fun r137_0 =>
  (f17_cookie_Size n 100).bind fun r138_0 =>
  if ((r138_0 : Int) == 64) = true then
    (f17_cookie_Size n 0).bind fun r138_1 =>
    if ((r138_1 : Int) == 1) = true then
      if ((r137_0.1 : Int) == 64) = true then
        if r137_0.2 = true then
          some true
        else
          some false
      else
        some false
    else
      some false
  else
    some false
theorem f18_broughamlaw30_alive_ok (n : Nat) (r : Bool) (h : f18_broughamlaw30_alive n = some r) : FnOK Go.Proofs.Try.prog 18 (f18_broughamlaw30_alive_in) (f18_broughamlaw30_alive_out r) := by
  unfold f18_broughamlaw30_alive at h
  refine At.fn (r := 0) Go.Proofs.Try.func18 rfl (by kernel_rfl) rfl rfl (by kernel_rfl) ?_
  show At Go.Proofs.Try.prog Go.Proofs.Try.f18 0 0 ⟨[], [], [], 0⟩ _
  refine At.step hm ht ⟨[], [], [], [], []⟩ 1 ⟨[], [], [], 0⟩ [] (by kernel_rfl) trivial ?_
  refine At.step hm ht ⟨[], [], [], [1], [1]⟩ 2 ⟨[(1, .one (.c (.ptr 0 0)))], [], [(0, [.d (.int .i64 1), .d (.int .u16 80), .d (.int .u16 5), .d (.int .u32 7)])], 1⟩ [0 + 4 ≤ 4] (by kernel_rfl) ⟨(by decide), trivial⟩ ?_
  obtain ⟨r136_0, cr136_0, h⟩ := bindS h
  refine At.step hm ht ⟨[(2, .call [] [] (f16_cookie_Make_out r136_0))], [], [], [1, 2], [0]⟩ 3 ⟨[(1, .one (.c (.ptr 0 0))), (2, .one (.c (.d (.int .u32 r136_0))))], [], [(0, [.d (.int .i64 1), .d (.int .u16 80), .d (.int .u16 5), .d (.int .u32 7)])], 1⟩ [FnOK Go.Proofs.Try.prog 16 (f16_cookie_Make_in 1 0 1 80 5 7 100 100) (f16_cookie_Make_out r136_0)] (by kernel_rfl) ⟨(f16_cookie_Make_ok n 1 0 1 80 5 7 100 100 r136_0 cr136_0), trivial⟩ ?_
  obtain ⟨r137_0, cr137_0, h⟩ := bindS h
  refine At.step hm ht ⟨[(3, .call [] [] (f15_cookie_Check_out r137_0))], [], [], [3, 4], []⟩ 4 ⟨[(3, .one (.c (.d (.int .i64 r137_0.1)))), (4, .one (.c (.d (.bool r137_0.2))))], [], [], 0⟩ [FnOK Go.Proofs.Try.prog 15 (f15_cookie_Check_in 1 0 1 80 5 7 130 r136_0) (f15_cookie_Check_out r137_0)] (by kernel_rfl) ⟨(f15_cookie_Check_ok n 1 0 1 80 5 7 130 r136_0 r137_0 cr137_0), trivial⟩ ?_
  obtain ⟨r138_0, cr138_0, h⟩ := bindS h
  rcases iteS h with ⟨b138_2, h⟩ | ⟨b138_2, h⟩
  · obtain ⟨r138_1, cr138_1, h⟩ := bindS h
    rcases iteS h with ⟨b138_6, h⟩ | ⟨b138_6, h⟩
    · rcases iteS h with ⟨b138_10, h⟩ | ⟨b138_10, h⟩
      · rcases iteS h with ⟨b138_13, h⟩ | ⟨b138_13, h⟩
        · have h := Option.some.inj h
          subst h
          exact At.fin hm ht ⟨[(0, .call [] [] (f17_cookie_Size_out r138_0)), (2, .b true), (3, .call [] [] (f17_cookie_Size_out r138_1)), (6, .b true), (10, .b true), (13, .b true)], [], [], [0], []⟩ [FnOK Go.Proofs.Try.prog 17 (f17_cookie_Size_in 100) (f17_cookie_Size_out r138_0), ((r138_0 : Int) == 64) = true, FnOK Go.Proofs.Try.prog 17 (f17_cookie_Size_in 0) (f17_cookie_Size_out r138_1), ((r138_1 : Int) == 1) = true, ((r137_0.1 : Int) == 64) = true, r137_0.2 = true] (by kernel_rfl) ⟨(f17_cookie_Size_ok n 100 r138_0 cr138_0), b138_2, (f17_cookie_Size_ok n 0 r138_1 cr138_1), b138_6, b138_10, b138_13, trivial⟩
        · have h := Option.some.inj h
          subst h
          exact At.fin hm ht ⟨[(0, .call [] [] (f17_cookie_Size_out r138_0)), (2, .b true), (3, .call [] [] (f17_cookie_Size_out r138_1)), (6, .b true), (10, .b true), (13, .b false)], [], [], [0], []⟩ [FnOK Go.Proofs.Try.prog 17 (f17_cookie_Size_in 100) (f17_cookie_Size_out r138_0), ((r138_0 : Int) == 64) = true, FnOK Go.Proofs.Try.prog 17 (f17_cookie_Size_in 0) (f17_cookie_Size_out r138_1), ((r138_1 : Int) == 1) = true, ((r137_0.1 : Int) == 64) = true, r137_0.2 = false] (by kernel_rfl) ⟨(f17_cookie_Size_ok n 100 r138_0 cr138_0), b138_2, (f17_cookie_Size_ok n 0 r138_1 cr138_1), b138_6, b138_10, b138_13, trivial⟩
      · have h := Option.some.inj h
        subst h
        exact At.fin hm ht ⟨[(0, .call [] [] (f17_cookie_Size_out r138_0)), (2, .b true), (3, .call [] [] (f17_cookie_Size_out r138_1)), (6, .b true), (10, .b false)], [], [], [0], []⟩ [FnOK Go.Proofs.Try.prog 17 (f17_cookie_Size_in 100) (f17_cookie_Size_out r138_0), ((r138_0 : Int) == 64) = true, FnOK Go.Proofs.Try.prog 17 (f17_cookie_Size_in 0) (f17_cookie_Size_out r138_1), ((r138_1 : Int) == 1) = true, ((r137_0.1 : Int) == 64) = false] (by kernel_rfl) ⟨(f17_cookie_Size_ok n 100 r138_0 cr138_0), b138_2, (f17_cookie_Size_ok n 0 r138_1 cr138_1), b138_6, b138_10, trivial⟩
    · have h := Option.some.inj h
      subst h
      exact At.fin hm ht ⟨[(0, .call [] [] (f17_cookie_Size_out r138_0)), (2, .b true), (3, .call [] [] (f17_cookie_Size_out r138_1)), (6, .b false)], [], [], [0], []⟩ [FnOK Go.Proofs.Try.prog 17 (f17_cookie_Size_in 100) (f17_cookie_Size_out r138_0), ((r138_0 : Int) == 64) = true, FnOK Go.Proofs.Try.prog 17 (f17_cookie_Size_in 0) (f17_cookie_Size_out r138_1), ((r138_1 : Int) == 1) = false] (by kernel_rfl) ⟨(f17_cookie_Size_ok n 100 r138_0 cr138_0), b138_2, (f17_cookie_Size_ok n 0 r138_1 cr138_1), b138_6, trivial⟩
  · have h := Option.some.inj h
    subst h
    exact At.fin hm ht ⟨[(0, .call [] [] (f17_cookie_Size_out r138_0)), (2, .b false)], [], [], [0], []⟩ [FnOK Go.Proofs.Try.prog 17 (f17_cookie_Size_in 100) (f17_cookie_Size_out r138_0), ((r138_0 : Int) == 64) = false] (by kernel_rfl) ⟨(f17_cookie_Size_ok n 100 r138_0 cr138_0), b138_2, trivial⟩
/-! brougham/broughamlaw30.CookieBack -/
def f3_broughamlaw30_CookieBack_in (k_0 : Int) (k_1 : Int) (a_0 : Int) (a_1 : Int) (a_2 : Int) (a_3 : Int) (w__0 : Int) (w__1 : Int) (w__2 : Int) : Inn := ⟨[.agg [.d (.int .u64 k_0), .d (.int .u64 k_1)], .agg [.d (.int .i64 a_0), .d (.int .u16 a_1), .d (.int .u16 a_2), .d (.int .u32 a_3)], .agg [.d (.int .i64 w__0), .d (.int .i64 w__1), .d (.int .i64 w__2)]], [], [], 0⟩
def f3_broughamlaw30_CookieBack_out (r : Bool) : Out := ⟨.one (.c (.d (.bool r))), [], [], 0⟩
def f3_broughamlaw30_CookieBack (n : Nat) (k_0 : Int) (k_1 : Int) (a_0 : Int) (a_1 : Int) (a_2 : Int) (a_3 : Int) (w__0 : Int) (w__1 : Int) (w__2 : Int) : Option (Bool) :=
  if (decide ((w__0 : Int) < 0)) = true then
    some true
  else
    if (decide ((w__0 : Int) ≥ 2147483648)) = true then
      some true
    else
      if (decide ((w__2 : Int) < 0)) = true then
        some true
      else
        if (decide ((w__2 : Int) > 64)) = true then
          some true
        else
          (f16_cookie_Make n k_0 k_1 a_0 a_1 a_2 a_3 w__0 w__1).bind fun r7_0 =>
          (f15_cookie_Check n k_0 k_1 a_0 a_1 a_2 a_3 (IntKind.wrap .i64 (w__0 + w__2)) r7_0).bind fun r7_1 =>
          if r7_1.2 = true then
            (f17_cookie_Size n w__1).bind fun r133_0 =>
            if ((r7_1.1 : Int) == r133_0) = true then
              if (decide ((r7_1.1 : Int) ≤ w__1)) = true then
                if (decide ((r7_1.1 : Int) ≤ 1024)) = true then
                  (f18_broughamlaw30_alive n).bind fun r133_1 =>
                  some r133_1
                else
                  some false
              else
                if ((r7_1.1 : Int) == 1) = true then
                  if (decide ((r7_1.1 : Int) ≤ 1024)) = true then
                    (f18_broughamlaw30_alive n).bind fun r133_1 =>
                    some r133_1
                  else
                    some false
                else
                  some false
            else
              some false
          else
            some false
theorem f3_broughamlaw30_CookieBack_ok (n : Nat) (k_0 : Int) (k_1 : Int) (a_0 : Int) (a_1 : Int) (a_2 : Int) (a_3 : Int) (w__0 : Int) (w__1 : Int) (w__2 : Int) (r : Bool) (h : f3_broughamlaw30_CookieBack n k_0 k_1 a_0 a_1 a_2 a_3 w__0 w__1 w__2 = some r) : FnOK Go.Proofs.Try.prog 3 (f3_broughamlaw30_CookieBack_in k_0 k_1 a_0 a_1 a_2 a_3 w__0 w__1 w__2) (f3_broughamlaw30_CookieBack_out r) := by
  unfold f3_broughamlaw30_CookieBack at h
  refine At.fn (r := 0) Go.Proofs.Try.func3 rfl (by kernel_rfl) rfl rfl (by kernel_rfl) ?_
  show At Go.Proofs.Try.prog Go.Proofs.Try.f3 0 0 ⟨[(0, .one (.agg [.d (.int .u64 k_0), .d (.int .u64 k_1)])), (1, .one (.agg [.d (.int .i64 a_0), .d (.int .u16 a_1), .d (.int .u16 a_2), .d (.int .u32 a_3)])), (2, .one (.agg [.d (.int .i64 w__0), .d (.int .i64 w__1), .d (.int .i64 w__2)]))], [], [], 0⟩ _
  refine At.step hm ht ⟨[], [], [], [3, 4, 5], [0, 1, 2]⟩ 1 ⟨[(3, .one (.c (.ptr 0 0))), (4, .one (.c (.ptr 1 0))), (5, .one (.c (.ptr 2 0)))], [], [(0, [.d (.int .u64 k_0), .d (.int .u64 k_1)]), (1, [.d (.int .i64 a_0), .d (.int .u16 a_1), .d (.int .u16 a_2), .d (.int .u32 a_3)]), (2, [.d (.int .i64 w__0), .d (.int .i64 w__1), .d (.int .i64 w__2)])], 3⟩ [] (by kernel_rfl) trivial ?_
  rcases iteS h with ⟨b2_3, h⟩ | ⟨b2_3, h⟩
  · refine At.step hm ht ⟨[(3, .b true)], [true], [], [], []⟩ 2 ⟨[], [], [], 0⟩ [(decide ((w__0 : Int) < 0)) = true, true = true] (by kernel_rfl) ⟨b2_3, rfl, trivial⟩ ?_
    have h := Option.some.inj h
    subst h
    exact At.fin hm ht ⟨[], [], [], [6], []⟩ [] (by kernel_rfl) trivial
  · rcases iteS h with ⟨b2_8, h⟩ | ⟨b2_8, h⟩
    · refine At.step hm ht ⟨[(3, .b false), (8, .b true)], [true], [], [], []⟩ 2 ⟨[], [], [], 0⟩ [(decide ((w__0 : Int) < 0)) = false, (decide ((w__0 : Int) ≥ 2147483648)) = true, true = true] (by kernel_rfl) ⟨b2_3, b2_8, rfl, trivial⟩ ?_
      have h := Option.some.inj h
      subst h
      exact At.fin hm ht ⟨[], [], [], [6], []⟩ [] (by kernel_rfl) trivial
    · rcases iteS h with ⟨b2_13, h⟩ | ⟨b2_13, h⟩
      · refine At.step hm ht ⟨[(3, .b false), (8, .b false), (13, .b true)], [true], [], [], []⟩ 2 ⟨[], [], [], 0⟩ [(decide ((w__0 : Int) < 0)) = false, (decide ((w__0 : Int) ≥ 2147483648)) = false, (decide ((w__2 : Int) < 0)) = true, true = true] (by kernel_rfl) ⟨b2_3, b2_8, b2_13, rfl, trivial⟩ ?_
        have h := Option.some.inj h
        subst h
        exact At.fin hm ht ⟨[], [], [], [6], []⟩ [] (by kernel_rfl) trivial
      · rcases iteS h with ⟨b2_e0, h⟩ | ⟨b2_e0, h⟩
        · refine At.step hm ht ⟨[(3, .b false), (8, .b false), (13, .b false)], [true], [], [], []⟩ 2 ⟨[], [], [], 0⟩ [(decide ((w__0 : Int) < 0)) = false, (decide ((w__0 : Int) ≥ 2147483648)) = false, (decide ((w__2 : Int) < 0)) = false, (decide ((w__2 : Int) > 64)) = true] (by kernel_rfl) ⟨b2_3, b2_8, b2_13, b2_e0, trivial⟩ ?_
          have h := Option.some.inj h
          subst h
          exact At.fin hm ht ⟨[], [], [], [6], []⟩ [] (by kernel_rfl) trivial
        · refine At.step hm ht ⟨[(3, .b false), (8, .b false), (13, .b false)], [false], [], [3, 4, 5], [0, 1, 2]⟩ 3 ⟨[(3, .one (.c (.ptr 0 0))), (4, .one (.c (.ptr 1 0))), (5, .one (.c (.ptr 2 0)))], [], [(0, [.d (.int .u64 k_0), .d (.int .u64 k_1)]), (1, [.d (.int .i64 a_0), .d (.int .u16 a_1), .d (.int .u16 a_2), .d (.int .u32 a_3)]), (2, [.d (.int .i64 w__0), .d (.int .i64 w__1), .d (.int .i64 w__2)])], 3⟩ [(decide ((w__0 : Int) < 0)) = false, (decide ((w__0 : Int) ≥ 2147483648)) = false, (decide ((w__2 : Int) < 0)) = false, (decide ((w__2 : Int) > 64)) = false] (by kernel_rfl) ⟨b2_3, b2_8, b2_13, b2_e0, trivial⟩ ?_
          obtain ⟨r7_0, cr7_0, h⟩ := bindS h
          obtain ⟨r7_1, cr7_1, h⟩ := bindS h
          refine At.step hm ht ⟨[(13, .call [] [] (f16_cookie_Make_out r7_0)), (14, .call [] [] (f15_cookie_Check_out r7_1))], [], [], [5, 7, 8], [2]⟩ 4 ⟨[(5, .one (.c (.ptr 0 0))), (7, .one (.c (.d (.int .i64 r7_1.1)))), (8, .one (.c (.d (.bool r7_1.2))))], [], [(0, [.d (.int .i64 w__0), .d (.int .i64 w__1), .d (.int .i64 w__2)])], 1⟩ [FnOK Go.Proofs.Try.prog 16 (f16_cookie_Make_in k_0 k_1 a_0 a_1 a_2 a_3 w__0 w__1) (f16_cookie_Make_out r7_0), FnOK Go.Proofs.Try.prog 15 (f15_cookie_Check_in k_0 k_1 a_0 a_1 a_2 a_3 (IntKind.wrap .i64 (w__0 + w__2)) r7_0) (f15_cookie_Check_out r7_1)] (by kernel_rfl) ⟨(f16_cookie_Make_ok n k_0 k_1 a_0 a_1 a_2 a_3 w__0 w__1 r7_0 cr7_0), (f15_cookie_Check_ok n k_0 k_1 a_0 a_1 a_2 a_3 (IntKind.wrap .i64 (w__0 + w__2)) r7_0 r7_1 cr7_1), trivial⟩ ?_
          rcases iteS h with ⟨b133_1, h⟩ | ⟨b133_1, h⟩
          · obtain ⟨r133_0, cr133_0, h⟩ := bindS h
            rcases iteS h with ⟨b133_8, h⟩ | ⟨b133_8, h⟩
            · rcases iteS h with ⟨b133_13, h⟩ | ⟨b133_13, h⟩
              · rcases iteS h with ⟨b133_22, h⟩ | ⟨b133_22, h⟩
                · obtain ⟨r133_1, cr133_1, h⟩ := bindS h
                  have h := Option.some.inj h
                  subst h
                  exact At.fin hm ht ⟨[(1, .b true), (5, .call [] [] (f17_cookie_Size_out r133_0)), (8, .b true), (13, .b true), (22, .b true), (23, .call [] [] (f18_broughamlaw30_alive_out r133_1))], [], [], [6], []⟩ [r7_1.2 = true, FnOK Go.Proofs.Try.prog 17 (f17_cookie_Size_in w__1) (f17_cookie_Size_out r133_0), ((r7_1.1 : Int) == r133_0) = true, (decide ((r7_1.1 : Int) ≤ w__1)) = true, (decide ((r7_1.1 : Int) ≤ 1024)) = true, FnOK Go.Proofs.Try.prog 18 (f18_broughamlaw30_alive_in) (f18_broughamlaw30_alive_out r133_1)] (by kernel_rfl) ⟨b133_1, (f17_cookie_Size_ok n w__1 r133_0 cr133_0), b133_8, b133_13, b133_22, (f18_broughamlaw30_alive_ok n r133_1 cr133_1), trivial⟩
                · have h := Option.some.inj h
                  subst h
                  exact At.fin hm ht ⟨[(1, .b true), (5, .call [] [] (f17_cookie_Size_out r133_0)), (8, .b true), (13, .b true), (22, .b false)], [], [], [6], []⟩ [r7_1.2 = true, FnOK Go.Proofs.Try.prog 17 (f17_cookie_Size_in w__1) (f17_cookie_Size_out r133_0), ((r7_1.1 : Int) == r133_0) = true, (decide ((r7_1.1 : Int) ≤ w__1)) = true, (decide ((r7_1.1 : Int) ≤ 1024)) = false] (by kernel_rfl) ⟨b133_1, (f17_cookie_Size_ok n w__1 r133_0 cr133_0), b133_8, b133_13, b133_22, trivial⟩
              · rcases iteS h with ⟨b133_18, h⟩ | ⟨b133_18, h⟩
                · rcases iteS h with ⟨b133_22, h⟩ | ⟨b133_22, h⟩
                  · obtain ⟨r133_1, cr133_1, h⟩ := bindS h
                    have h := Option.some.inj h
                    subst h
                    exact At.fin hm ht ⟨[(1, .b true), (5, .call [] [] (f17_cookie_Size_out r133_0)), (8, .b true), (13, .b false), (18, .b true), (22, .b true), (23, .call [] [] (f18_broughamlaw30_alive_out r133_1))], [], [], [6], []⟩ [r7_1.2 = true, FnOK Go.Proofs.Try.prog 17 (f17_cookie_Size_in w__1) (f17_cookie_Size_out r133_0), ((r7_1.1 : Int) == r133_0) = true, (decide ((r7_1.1 : Int) ≤ w__1)) = false, ((r7_1.1 : Int) == 1) = true, (decide ((r7_1.1 : Int) ≤ 1024)) = true, FnOK Go.Proofs.Try.prog 18 (f18_broughamlaw30_alive_in) (f18_broughamlaw30_alive_out r133_1)] (by kernel_rfl) ⟨b133_1, (f17_cookie_Size_ok n w__1 r133_0 cr133_0), b133_8, b133_13, b133_18, b133_22, (f18_broughamlaw30_alive_ok n r133_1 cr133_1), trivial⟩
                  · have h := Option.some.inj h
                    subst h
                    exact At.fin hm ht ⟨[(1, .b true), (5, .call [] [] (f17_cookie_Size_out r133_0)), (8, .b true), (13, .b false), (18, .b true), (22, .b false)], [], [], [6], []⟩ [r7_1.2 = true, FnOK Go.Proofs.Try.prog 17 (f17_cookie_Size_in w__1) (f17_cookie_Size_out r133_0), ((r7_1.1 : Int) == r133_0) = true, (decide ((r7_1.1 : Int) ≤ w__1)) = false, ((r7_1.1 : Int) == 1) = true, (decide ((r7_1.1 : Int) ≤ 1024)) = false] (by kernel_rfl) ⟨b133_1, (f17_cookie_Size_ok n w__1 r133_0 cr133_0), b133_8, b133_13, b133_18, b133_22, trivial⟩
                · have h := Option.some.inj h
                  subst h
                  exact At.fin hm ht ⟨[(1, .b true), (5, .call [] [] (f17_cookie_Size_out r133_0)), (8, .b true), (13, .b false), (18, .b false)], [], [], [6], []⟩ [r7_1.2 = true, FnOK Go.Proofs.Try.prog 17 (f17_cookie_Size_in w__1) (f17_cookie_Size_out r133_0), ((r7_1.1 : Int) == r133_0) = true, (decide ((r7_1.1 : Int) ≤ w__1)) = false, ((r7_1.1 : Int) == 1) = false] (by kernel_rfl) ⟨b133_1, (f17_cookie_Size_ok n w__1 r133_0 cr133_0), b133_8, b133_13, b133_18, trivial⟩
            · have h := Option.some.inj h
              subst h
              exact At.fin hm ht ⟨[(1, .b true), (5, .call [] [] (f17_cookie_Size_out r133_0)), (8, .b false)], [], [], [6], []⟩ [r7_1.2 = true, FnOK Go.Proofs.Try.prog 17 (f17_cookie_Size_in w__1) (f17_cookie_Size_out r133_0), ((r7_1.1 : Int) == r133_0) = false] (by kernel_rfl) ⟨b133_1, (f17_cookie_Size_ok n w__1 r133_0 cr133_0), b133_8, trivial⟩
          · have h := Option.some.inj h
            subst h
            exact At.fin hm ht ⟨[(1, .b false)], [], [], [6], []⟩ [r7_1.2 = false] (by kernel_rfl) ⟨b133_1, trivial⟩
end Go.Proofs.YtjoibacjpapncaaF30
