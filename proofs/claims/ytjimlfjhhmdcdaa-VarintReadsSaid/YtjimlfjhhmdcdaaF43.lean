/- What the functions compute, and that they do: printed by a program of this session (zgen.py), proved by Zed. -/
import Derived.Test.YtjimlfjhhmdcdaaProg
import Derived.Test.YtjimlfjhhmdcdaaZedY
namespace Go.Proofs.YtjimlfjhhmdcdaaF43
open Go Zed
set_option maxRecDepth 100000
set_option linter.unusedVariables false
def tab : Tab := [(2, ⟨.int .i64, 1, 8, [.int .i64 0], some (.int .i64), none⟩), (3, ⟨.int .i64, 1, 8, [.int .i64 0], some (.int .i64), none⟩), (4, ⟨.bool, 1, 1, [.bool false], some .bool, none⟩), (5, ⟨.int .u8, 1, 1, [.int .u8 0], some (.int .u8), none⟩), (9, ⟨.str, 1, 16, [.str (⟨#[]⟩ : ByteArray)], some .str, none⟩), (34, ⟨.slice 5, 1, 24, [.sl .unit []], some (.slice (.int .u8)), none⟩), (35, ⟨.slice 37, 1, 24, [.sl .unit []], some (.slice (.int .u64)), none⟩), (37, ⟨.int .u64, 1, 8, [.int .u64 0], some (.int .u64), none⟩), (92, ⟨.slice 2, 1, 24, [.sl .unit []], some (.slice (.int .i64)), none⟩)]
theorem ht : TabOk Go.Proofs.Try.prog tab := tabOk_of (ts := [2, 3, 4, 5, 9, 34, 35, 37, 92]) (by kernel_rfl)
theorem hm : Go.Proofs.Try.prog.follows .mixedOrders = true := by kernel_rfl
/-! brougham/broughamref43.Put -/
def f20_broughamref43_Put_in (n_ : Int) : Inn := ⟨[.c (.d (.int .u64 n_))], [], [], 0⟩
def f20_broughamref43_Put_out (r : List Int) : Out := ⟨.one (.c (.own 0 (.int .u8) r)), [(0, ⟨5, 0⟩)], [], 1⟩
def f20_broughamref43_Put : Nat → Int → Option (List Int)
  | 0, _ => none
  | n + 1, n_ =>
    if (decide ((n_ : Int) < 128)) = true then
      some [(IntKind.wrap .u8 n_)]
    else
      (f20_broughamref43_Put n (IntKind.wrap .u64 (Int.tdiv n_ 128))).bind fun r16_0 =>
      if [(IntKind.wrap .u8 (IntKind.wrap .u64 ((Int.tmod n_ 128) + 128)))].length + r16_0.length ≤ maxLen ∧ ([(IntKind.wrap .u8 (IntKind.wrap .u64 ((Int.tmod n_ 128) + 128)))].length + r16_0.length) * 1 ≤ 140737488355328 then
      some ([(IntKind.wrap .u8 (IntKind.wrap .u64 ((Int.tmod n_ 128) + 128)))] ++ r16_0)
      else none
theorem f20_broughamref43_Put_ok (n : Nat) : ∀ (n_ : Int) (r : List Int) (h : f20_broughamref43_Put n n_ = some r), FnOK Go.Proofs.Try.prog 20 (f20_broughamref43_Put_in n_) (f20_broughamref43_Put_out r) := by
  induction n with
  | zero => intro n_ r h; rw [f20_broughamref43_Put] at h; cases h
  | succ n ih =>
    intro n_ r h
    rw [f20_broughamref43_Put] at h
    refine At.fn (r := 0) Go.Proofs.Try.func20 rfl (by kernel_rfl) rfl rfl (by kernel_rfl) ?_
    show At Go.Proofs.Try.prog Go.Proofs.Try.f20 0 0 ⟨[(0, .one (.c (.d (.int .u64 n_))))], [], [], 0⟩ _
    refine At.step hm ht ⟨[], [], [], [0], []⟩ 1 ⟨[(0, .one (.c (.d (.int .u64 n_))))], [], [], 0⟩ [] (by kernel_rfl) trivial ?_
    rcases iteS h with ⟨b14_e0, h⟩ | ⟨b14_e0, h⟩
    · refine At.step hm ht ⟨[], [true], [], [0], []⟩ 2 ⟨[(0, .one (.c (.d (.int .u64 n_))))], [], [], 0⟩ [(decide ((n_ : Int) < 128)) = true] (by kernel_rfl) ⟨b14_e0, trivial⟩ ?_
      have h := Option.some.inj h
      subst h
      exact At.fin hm ht ⟨[], [], [.flag 2], [2], [2]⟩ [] (by kernel_rfl) trivial
    · refine At.step hm ht ⟨[], [false], [], [0], []⟩ 3 ⟨[(0, .one (.c (.d (.int .u64 n_))))], [], [], 0⟩ [(decide ((n_ : Int) < 128)) = false] (by kernel_rfl) ⟨b14_e0, trivial⟩ ?_
      obtain ⟨r16_0, cr16_0, h⟩ := bindS h
      obtain ⟨g16_1, h⟩ := ifS h
      have h := Option.some.inj h
      subst h
      exact At.fin hm ht ⟨[(7, .call [] [] (f20_broughamref43_Put_out r16_0))], [], [], [2], [8]⟩ [(128 : Int) ≠ 0, (128 : Int) ≠ 0, FnOK Go.Proofs.Try.prog 20 (f20_broughamref43_Put_in (IntKind.wrap .u64 (Int.tdiv n_ 128))) (f20_broughamref43_Put_out r16_0), [(IntKind.wrap .u8 (IntKind.wrap .u64 ((Int.tmod n_ 128) + 128)))].length + r16_0.length ≤ maxLen ∧ ([(IntKind.wrap .u8 (IntKind.wrap .u64 ((Int.tmod n_ 128) + 128)))].length + r16_0.length) * 1 ≤ 140737488355328] (by kernel_rfl) ⟨(by decide), (by decide), (ih (IntKind.wrap .u64 (Int.tdiv n_ 128)) r16_0 cr16_0), g16_1, trivial⟩
/-! brougham/varint.Size -/
def f21_varint_Size_in (n_ : Int) : Inn := ⟨[.c (.d (.int .u64 n_))], [], [], 0⟩
def f21_varint_Size_out (r : Int) : Out := ⟨.one (.c (.d (.int .i64 r))), [], [], 0⟩
def f21_varint_Size_L2 : Nat → Int → Int → Option (Int)
  | 0, _, _ => none
  | n + 1, n_, k =>
    if (decide ((n_ : Int) ≥ 128)) = true then
      f21_varint_Size_L2 n (Int.fdiv n_ (2 ^ 7)) (IntKind.wrap .i64 (k + 1))
    else
      some (k)
def f21_varint_Size_L2_k (e : Int) (o : Out) : Prop := At Go.Proofs.Try.prog Go.Proofs.Try.f21 0 5 ⟨[(3, .one (.c (.d (.int .i64 e))))], [], [], 0⟩ o
theorem f21_varint_Size_L2_ok (n : Nat) : ∀ (n_ : Int) (k : Int) (w : Int) (h : f21_varint_Size_L2 n n_ k = some w) (o : Out) (hk : f21_varint_Size_L2_k w o), At Go.Proofs.Try.prog Go.Proofs.Try.f21 0 2 ⟨[(0, .one (.c (.d (.int .u64 n_)))), (3, .one (.c (.d (.int .i64 k))))], [], [], 0⟩ o := by
  induction n with
  | zero => intro n_ k w h; rw [f21_varint_Size_L2] at h; cases h
  | succ n ih =>
    intro n_ k w h o hk
    rw [f21_varint_Size_L2] at h
    rcases iteS h with ⟨b20_e0, h⟩ | ⟨b20_e0, h⟩
    · refine At.step hm ht ⟨[], [true], [], [0, 3], []⟩ 3 ⟨[(0, .one (.c (.d (.int .u64 n_)))), (3, .one (.c (.d (.int .i64 k))))], [], [], 0⟩ [(decide ((n_ : Int) ≥ 128)) = true] (by kernel_rfl) ⟨b20_e0, trivial⟩ ?_
      refine At.step hm ht ⟨[], [], [], [0, 3], []⟩ 4 ⟨[(0, .one (.c (.d (.int .u64 (Int.fdiv n_ (2 ^ 7)))))), (3, .one (.c (.d (.int .i64 k))))], [], [], 0⟩ [(0 : Int) ≤ 7] (by kernel_rfl) ⟨(by decide), trivial⟩ ?_
      refine At.step hm ht ⟨[], [], [], [0, 3], []⟩ 2 ⟨[(0, .one (.c (.d (.int .u64 (Int.fdiv n_ (2 ^ 7)))))), (3, .one (.c (.d (.int .i64 (IntKind.wrap .i64 (k + 1))))))], [], [], 0⟩ [] (by kernel_rfl) trivial ?_
      exact ih (Int.fdiv n_ (2 ^ 7)) (IntKind.wrap .i64 (k + 1)) w h o hk
    · refine At.step hm ht ⟨[], [false], [], [3], []⟩ 5 ⟨[(3, .one (.c (.d (.int .i64 k))))], [], [], 0⟩ [(decide ((n_ : Int) ≥ 128)) = false] (by kernel_rfl) ⟨b20_e0, trivial⟩ ?_
      have h := Option.some.inj h
      subst h
      exact hk
def f21_varint_Size (n : Nat) (n_ : Int) : Option (Int) :=
  (f21_varint_Size_L2 n n_ 1).bind fun w23 =>
  some w23
theorem f21_varint_Size_ok (n : Nat) (n_ : Int) (r : Int) (h : f21_varint_Size n n_ = some r) : FnOK Go.Proofs.Try.prog 21 (f21_varint_Size_in n_) (f21_varint_Size_out r) := by
  unfold f21_varint_Size at h
  refine At.fn (r := 0) Go.Proofs.Try.func21 rfl (by kernel_rfl) rfl rfl (by kernel_rfl) ?_
  show At Go.Proofs.Try.prog Go.Proofs.Try.f21 0 0 ⟨[(0, .one (.c (.d (.int .u64 n_))))], [], [], 0⟩ _
  refine At.step hm ht ⟨[], [], [], [0], []⟩ 1 ⟨[(0, .one (.c (.d (.int .u64 n_))))], [], [], 0⟩ [] (by kernel_rfl) trivial ?_
  refine At.step hm ht ⟨[], [], [], [0, 3], []⟩ 2 ⟨[(0, .one (.c (.d (.int .u64 n_)))), (3, .one (.c (.d (.int .i64 1))))], [], [], 0⟩ [] (by kernel_rfl) trivial ?_
  obtain ⟨w23, cw23, h⟩ := bindS h
  refine f21_varint_Size_L2_ok n n_ 1 w23 cw23 _ ?_
  show At Go.Proofs.Try.prog Go.Proofs.Try.f21 0 5 ⟨[(3, .one (.c (.d (.int .i64 w23))))], [], [], 0⟩ _
  have h := Option.some.inj h
  subst h
  exact At.fin hm ht ⟨[], [], [], [2], []⟩ [] (by kernel_rfl) trivial
/-! brougham/varint.Put -/
def f22_varint_Put_in (b : List Int) (l : List Int) : Inn := ⟨[.c (.d (.sl (.int .u8) b)), .c (.d (.sl (.int .u64) l))], [], [], 0⟩
def f22_varint_Put_out (r : List Int) : Out := ⟨.one (.c (.own 0 (.int .u8) r)), [(0, ⟨5, 0⟩)], [], 1⟩
def f22_varint_Put_L5 : Nat → (List Int) → Int → (List Int) → Int → Int → Option (List Int × Int × List Int × Int × Int)
  | 0, _, _, _, _, _ => none
  | n + 1, out, n_, t10, t11, t12 =>
    if (decide ((n_ : Int) ≥ 128)) = true then
      if out.length + [(bits .or .u8 (IntKind.wrap .u8 n_) 128)].length ≤ maxLen ∧ (out.length + [(bits .or .u8 (IntKind.wrap .u8 n_) 128)].length) * 1 ≤ 140737488355328 then
      f22_varint_Put_L5 n (out ++ [(bits .or .u8 (IntKind.wrap .u8 n_) 128)]) (Int.fdiv n_ (2 ^ 7)) t10 t11 t12
      else none
    else
      some ((out, n_, t10, t11, t12))
def f22_varint_Put_L5_k (e : List Int × Int × List Int × Int × Int) (o : Out) : Prop := At Go.Proofs.Try.prog Go.Proofs.Try.f22 0 8 ⟨[(5, .one (.c (.own 0 (.int .u8) e.1))), (7, .one (.c (.d (.int .u64 e.2.1)))), (10, .one (.c (.d (.sl (.int .u64) e.2.2.1)))), (11, .one (.c (.d (.int .i64 e.2.2.2.1)))), (12, .one (.c (.d (.int .i64 e.2.2.2.2))))], [(0, some ⟨5, 0⟩)], [], 1⟩ o
theorem f22_varint_Put_L5_ok (n : Nat) : ∀ (out : List Int) (n_ : Int) (t10 : List Int) (t11 : Int) (t12 : Int) (w : List Int × Int × List Int × Int × Int) (h : f22_varint_Put_L5 n out n_ t10 t11 t12 = some w) (o : Out) (hk : f22_varint_Put_L5_k w o), At Go.Proofs.Try.prog Go.Proofs.Try.f22 0 5 ⟨[(5, .one (.c (.own 0 (.int .u8) out))), (7, .one (.c (.d (.int .u64 n_)))), (10, .one (.c (.d (.sl (.int .u64) t10)))), (11, .one (.c (.d (.int .i64 t11)))), (12, .one (.c (.d (.int .i64 t12))))], [(0, some ⟨5, 0⟩)], [], 1⟩ o := by
  induction n with
  | zero => intro out n_ t10 t11 t12 w h; rw [f22_varint_Put_L5] at h; cases h
  | succ n ih =>
    intro out n_ t10 t11 t12 w h o hk
    rw [f22_varint_Put_L5] at h
    rcases iteS h with ⟨b38_e0, h⟩ | ⟨b38_e0, h⟩
    · refine At.step hm ht ⟨[], [true], [], [5, 7, 10, 11, 12], [0]⟩ 6 ⟨[(5, .one (.c (.own 0 (.int .u8) out))), (7, .one (.c (.d (.int .u64 n_)))), (10, .one (.c (.d (.sl (.int .u64) t10)))), (11, .one (.c (.d (.int .i64 t11)))), (12, .one (.c (.d (.int .i64 t12))))], [(0, some ⟨5, 0⟩)], [], 1⟩ [(decide ((n_ : Int) ≥ 128)) = true] (by kernel_rfl) ⟨b38_e0, trivial⟩ ?_
      obtain ⟨g39_0, h⟩ := ifS h
      refine At.step hm ht ⟨[], [], [], [5, 7, 10, 11, 12], [6]⟩ 7 ⟨[(5, .one (.c (.own 0 (.int .u8) (out ++ [(bits .or .u8 (IntKind.wrap .u8 n_) 128)])))), (7, .one (.c (.d (.int .u64 n_)))), (10, .one (.c (.d (.sl (.int .u64) t10)))), (11, .one (.c (.d (.int .i64 t11)))), (12, .one (.c (.d (.int .i64 t12))))], [(0, some ⟨5, 0⟩)], [], 1⟩ [out.length + [(bits .or .u8 (IntKind.wrap .u8 n_) 128)].length ≤ maxLen ∧ (out.length + [(bits .or .u8 (IntKind.wrap .u8 n_) 128)].length) * 1 ≤ 140737488355328] (by kernel_rfl) ⟨g39_0, trivial⟩ ?_
      refine At.step hm ht ⟨[], [], [], [5, 7, 10, 11, 12], [0]⟩ 5 ⟨[(5, .one (.c (.own 0 (.int .u8) (out ++ [(bits .or .u8 (IntKind.wrap .u8 n_) 128)])))), (7, .one (.c (.d (.int .u64 (Int.fdiv n_ (2 ^ 7)))))), (10, .one (.c (.d (.sl (.int .u64) t10)))), (11, .one (.c (.d (.int .i64 t11)))), (12, .one (.c (.d (.int .i64 t12))))], [(0, some ⟨5, 0⟩)], [], 1⟩ [(0 : Int) ≤ 7] (by kernel_rfl) ⟨(by decide), trivial⟩ ?_
      exact ih (out ++ [(bits .or .u8 (IntKind.wrap .u8 n_) 128)]) (Int.fdiv n_ (2 ^ 7)) t10 t11 t12 w h o hk
    · refine At.step hm ht ⟨[], [false], [], [5, 7, 10, 11, 12], [0]⟩ 8 ⟨[(5, .one (.c (.own 0 (.int .u8) out))), (7, .one (.c (.d (.int .u64 n_)))), (10, .one (.c (.d (.sl (.int .u64) t10)))), (11, .one (.c (.d (.int .i64 t11)))), (12, .one (.c (.d (.int .i64 t12))))], [(0, some ⟨5, 0⟩)], [], 1⟩ [(decide ((n_ : Int) ≥ 128)) = false] (by kernel_rfl) ⟨b38_e0, trivial⟩ ?_
      have h := Option.some.inj h
      subst h
      exact hk
def f22_varint_Put_L3 : Nat → (List Int) → (List Int) → Int → Int → Option (List Int)
  | 0, _, _, _, _ => none
  | n + 1, out, t10, t11, t12 =>
    if (decide ((t12 : Int) < t11)) = true then
      if (0 : Int) ≤ t12 ∧ t12 < (((t10).length : Nat) : Int) then
      (f22_varint_Put_L5 n out (t10.getD t12.toNat 0) t10 t11 t12).bind fun w41 =>
      if w41.1.length + [(IntKind.wrap .u8 w41.2.1)].length ≤ maxLen ∧ (w41.1.length + [(IntKind.wrap .u8 w41.2.1)].length) * 1 ≤ 140737488355328 then
      f22_varint_Put_L3 n (w41.1 ++ [(IntKind.wrap .u8 w41.2.1)]) w41.2.2.1 w41.2.2.2.1 (IntKind.wrap .i64 (w41.2.2.2.2 + 1))
      else none
      else none
    else
      some (out)
def f22_varint_Put_L3_k (e : List Int) (o : Out) : Prop := At Go.Proofs.Try.prog Go.Proofs.Try.f22 0 10 ⟨[(5, .one (.c (.own 0 (.int .u8) e)))], [(0, some ⟨5, 0⟩)], [], 1⟩ o
theorem f22_varint_Put_L3_ok (n : Nat) : ∀ (out : List Int) (t10 : List Int) (t11 : Int) (t12 : Int) (w : List Int) (h : f22_varint_Put_L3 n out t10 t11 t12 = some w) (o : Out) (hk : f22_varint_Put_L3_k w o), At Go.Proofs.Try.prog Go.Proofs.Try.f22 0 3 ⟨[(5, .one (.c (.own 0 (.int .u8) out))), (10, .one (.c (.d (.sl (.int .u64) t10)))), (11, .one (.c (.d (.int .i64 t11)))), (12, .one (.c (.d (.int .i64 t12))))], [(0, some ⟨5, 0⟩)], [], 1⟩ o := by
  induction n with
  | zero => intro out t10 t11 t12 w h; rw [f22_varint_Put_L3] at h; cases h
  | succ n ih =>
    intro out t10 t11 t12 w h o hk
    rw [f22_varint_Put_L3] at h
    rcases iteS h with ⟨b36_e0, h⟩ | ⟨b36_e0, h⟩
    · refine At.step hm ht ⟨[], [true], [], [5, 10, 11, 12], [0]⟩ 4 ⟨[(5, .one (.c (.own 0 (.int .u8) out))), (10, .one (.c (.d (.sl (.int .u64) t10)))), (11, .one (.c (.d (.int .i64 t11)))), (12, .one (.c (.d (.int .i64 t12))))], [(0, some ⟨5, 0⟩)], [], 1⟩ [(decide ((t12 : Int) < t11)) = true] (by kernel_rfl) ⟨b36_e0, trivial⟩ ?_
      obtain ⟨g37_0, h⟩ := ifS h
      refine At.step hm ht ⟨[], [], [], [5, 7, 10, 11, 12], [0]⟩ 5 ⟨[(5, .one (.c (.own 0 (.int .u8) out))), (7, .one (.c (.d (.int .u64 (t10.getD t12.toNat 0))))), (10, .one (.c (.d (.sl (.int .u64) t10)))), (11, .one (.c (.d (.int .i64 t11)))), (12, .one (.c (.d (.int .i64 t12))))], [(0, some ⟨5, 0⟩)], [], 1⟩ [(0 : Int) ≤ t12 ∧ t12 < (((t10).length : Nat) : Int)] (by kernel_rfl) ⟨g37_0, trivial⟩ ?_
      obtain ⟨w41, cw41, h⟩ := bindS h
      refine f22_varint_Put_L5_ok n out (t10.getD t12.toNat 0) t10 t11 t12 w41 cw41 _ ?_
      show At Go.Proofs.Try.prog Go.Proofs.Try.f22 0 8 ⟨[(5, .one (.c (.own 0 (.int .u8) w41.1))), (7, .one (.c (.d (.int .u64 w41.2.1)))), (10, .one (.c (.d (.sl (.int .u64) w41.2.2.1)))), (11, .one (.c (.d (.int .i64 w41.2.2.2.1)))), (12, .one (.c (.d (.int .i64 w41.2.2.2.2))))], [(0, some ⟨5, 0⟩)], [], 1⟩ _
      obtain ⟨g43_0, h⟩ := ifS h
      refine At.step hm ht ⟨[], [], [], [5, 10, 11, 12], [5]⟩ 9 ⟨[(5, .one (.c (.own 0 (.int .u8) (w41.1 ++ [(IntKind.wrap .u8 w41.2.1)])))), (10, .one (.c (.d (.sl (.int .u64) w41.2.2.1)))), (11, .one (.c (.d (.int .i64 w41.2.2.2.1)))), (12, .one (.c (.d (.int .i64 w41.2.2.2.2))))], [(0, some ⟨5, 0⟩)], [], 1⟩ [w41.1.length + [(IntKind.wrap .u8 w41.2.1)].length ≤ maxLen ∧ (w41.1.length + [(IntKind.wrap .u8 w41.2.1)].length) * 1 ≤ 140737488355328] (by kernel_rfl) ⟨g43_0, trivial⟩ ?_
      refine At.step hm ht ⟨[], [], [], [5, 10, 11, 12], [0]⟩ 3 ⟨[(5, .one (.c (.own 0 (.int .u8) (w41.1 ++ [(IntKind.wrap .u8 w41.2.1)])))), (10, .one (.c (.d (.sl (.int .u64) w41.2.2.1)))), (11, .one (.c (.d (.int .i64 w41.2.2.2.1)))), (12, .one (.c (.d (.int .i64 (IntKind.wrap .i64 (w41.2.2.2.2 + 1))))))], [(0, some ⟨5, 0⟩)], [], 1⟩ [] (by kernel_rfl) trivial ?_
      exact ih (w41.1 ++ [(IntKind.wrap .u8 w41.2.1)]) w41.2.2.1 w41.2.2.2.1 (IntKind.wrap .i64 (w41.2.2.2.2 + 1)) w h o hk
    · refine At.step hm ht ⟨[], [false], [], [5], [0]⟩ 10 ⟨[(5, .one (.c (.own 0 (.int .u8) out)))], [(0, some ⟨5, 0⟩)], [], 1⟩ [(decide ((t12 : Int) < t11)) = false] (by kernel_rfl) ⟨b36_e0, trivial⟩ ?_
      have h := Option.some.inj h
      subst h
      exact hk
def f22_varint_Put (n : Nat) (b : List Int) (l : List Int) : Option (List Int) :=
  if b.length ≤ maxLen ∧ b.length * 1 ≤ 140737488355328 then
  (f22_varint_Put_L3 n b l ((l.length : Nat) : Int) 0).bind fun w45 =>
  some w45
  else none
theorem f22_varint_Put_ok (n : Nat) (b : List Int) (l : List Int) (r : List Int) (h : f22_varint_Put n b l = some r) : FnOK Go.Proofs.Try.prog 22 (f22_varint_Put_in b l) (f22_varint_Put_out r) := by
  unfold f22_varint_Put at h
  refine At.fn (r := 0) Go.Proofs.Try.func22 rfl (by kernel_rfl) rfl rfl (by kernel_rfl) ?_
  show At Go.Proofs.Try.prog Go.Proofs.Try.f22 0 0 ⟨[(0, .one (.c (.d (.sl (.int .u8) b)))), (1, .one (.c (.d (.sl (.int .u64) l))))], [], [], 0⟩ _
  refine At.step hm ht ⟨[], [], [], [0, 1], []⟩ 1 ⟨[(0, .one (.c (.d (.sl (.int .u8) b)))), (1, .one (.c (.d (.sl (.int .u64) l))))], [], [], 0⟩ [] (by kernel_rfl) trivial ?_
  obtain ⟨g34_0, h⟩ := ifS h
  refine At.step hm ht ⟨[], [], [], [1, 5], [1]⟩ 2 ⟨[(1, .one (.c (.d (.sl (.int .u64) l)))), (5, .one (.c (.own 0 (.int .u8) b)))], [(0, some ⟨5, 0⟩)], [], 1⟩ [b.length ≤ maxLen ∧ b.length * 1 ≤ 140737488355328] (by kernel_rfl) ⟨g34_0, trivial⟩ ?_
  refine At.step hm ht ⟨[], [], [], [5, 10, 11, 12], [0]⟩ 3 ⟨[(5, .one (.c (.own 0 (.int .u8) b))), (10, .one (.c (.d (.sl (.int .u64) l)))), (11, .one (.c (.d (.int .i64 ((l.length : Nat) : Int))))), (12, .one (.c (.d (.int .i64 0))))], [(0, some ⟨5, 0⟩)], [], 1⟩ [] (by kernel_rfl) trivial ?_
  obtain ⟨w45, cw45, h⟩ := bindS h
  refine f22_varint_Put_L3_ok n b l ((l.length : Nat) : Int) 0 w45 cw45 _ ?_
  show At Go.Proofs.Try.prog Go.Proofs.Try.f22 0 10 ⟨[(5, .one (.c (.own 0 (.int .u8) w45)))], [(0, some ⟨5, 0⟩)], [], 1⟩ _
  have h := Option.some.inj h
  subst h
  exact At.fin hm ht ⟨[], [], [], [4], [0]⟩ [] (by kernel_rfl) trivial
/-! brougham/varint.Get -/
def f24_varint_Get_in (b : List Int) : Inn := ⟨[.c (.d (.sl (.int .u8) b))], [], [], 0⟩
def f24_varint_Get_out (r : Int × Int) : Out := ⟨.tup [.c (.d (.int .u64 r.1)), .c (.d (.int .i64 r.2))], [], [], 0⟩
def f24_varint_Get_L3 : Nat → (List Int) → Int → Int → Int → Option ((Int × Int) ⊕ (Unit))
  | 0, _, _, _, _ => none
  | n + 1, b, n_, t9, t10 =>
    if (decide ((t10 : Int) < t9)) = true then
      if (0 : Int) ≤ t10 ∧ t10 < (((b).length : Nat) : Int) then
      if ((t10 : Int) == 9) = true then
        if (decide (((b.getD t10.toNat 0) : Int) > 1)) = true then
          some (.inl (0, 0))
        else
          if (decide ((t10 : Int) > 0)) = true then
            if (((b.getD t10.toNat 0) : Int) == 0) = true then
              some (.inl (0, 0))
            else
              if (0 : Int) ≤ (IntKind.wrap .i64 (7 * t10)) then
              if (decide (((b.getD t10.toNat 0) : Int) < 128)) = true then
                some (.inl ((bits .or .u64 n_ (IntKind.wrap .u64 ((IntKind.wrap .u64 (bits .and .u8 (b.getD t10.toNat 0) 127)) * 2 ^ (min (IntKind.wrap .i64 (7 * t10)).toNat (IntKind.bits .u64))))), (IntKind.wrap .i64 (t10 + 1))))
              else
                f24_varint_Get_L3 n b (bits .or .u64 n_ (IntKind.wrap .u64 ((IntKind.wrap .u64 (bits .and .u8 (b.getD t10.toNat 0) 127)) * 2 ^ (min (IntKind.wrap .i64 (7 * t10)).toNat (IntKind.bits .u64))))) t9 (IntKind.wrap .i64 (t10 + 1))
              else none
          else
            if (0 : Int) ≤ (IntKind.wrap .i64 (7 * t10)) then
            if (decide (((b.getD t10.toNat 0) : Int) < 128)) = true then
              some (.inl ((bits .or .u64 n_ (IntKind.wrap .u64 ((IntKind.wrap .u64 (bits .and .u8 (b.getD t10.toNat 0) 127)) * 2 ^ (min (IntKind.wrap .i64 (7 * t10)).toNat (IntKind.bits .u64))))), (IntKind.wrap .i64 (t10 + 1))))
            else
              f24_varint_Get_L3 n b (bits .or .u64 n_ (IntKind.wrap .u64 ((IntKind.wrap .u64 (bits .and .u8 (b.getD t10.toNat 0) 127)) * 2 ^ (min (IntKind.wrap .i64 (7 * t10)).toNat (IntKind.bits .u64))))) t9 (IntKind.wrap .i64 (t10 + 1))
            else none
      else
        if (decide ((t10 : Int) > 0)) = true then
          if (((b.getD t10.toNat 0) : Int) == 0) = true then
            some (.inl (0, 0))
          else
            if (0 : Int) ≤ (IntKind.wrap .i64 (7 * t10)) then
            if (decide (((b.getD t10.toNat 0) : Int) < 128)) = true then
              some (.inl ((bits .or .u64 n_ (IntKind.wrap .u64 ((IntKind.wrap .u64 (bits .and .u8 (b.getD t10.toNat 0) 127)) * 2 ^ (min (IntKind.wrap .i64 (7 * t10)).toNat (IntKind.bits .u64))))), (IntKind.wrap .i64 (t10 + 1))))
            else
              f24_varint_Get_L3 n b (bits .or .u64 n_ (IntKind.wrap .u64 ((IntKind.wrap .u64 (bits .and .u8 (b.getD t10.toNat 0) 127)) * 2 ^ (min (IntKind.wrap .i64 (7 * t10)).toNat (IntKind.bits .u64))))) t9 (IntKind.wrap .i64 (t10 + 1))
            else none
        else
          if (0 : Int) ≤ (IntKind.wrap .i64 (7 * t10)) then
          if (decide (((b.getD t10.toNat 0) : Int) < 128)) = true then
            some (.inl ((bits .or .u64 n_ (IntKind.wrap .u64 ((IntKind.wrap .u64 (bits .and .u8 (b.getD t10.toNat 0) 127)) * 2 ^ (min (IntKind.wrap .i64 (7 * t10)).toNat (IntKind.bits .u64))))), (IntKind.wrap .i64 (t10 + 1))))
          else
            f24_varint_Get_L3 n b (bits .or .u64 n_ (IntKind.wrap .u64 ((IntKind.wrap .u64 (bits .and .u8 (b.getD t10.toNat 0) 127)) * 2 ^ (min (IntKind.wrap .i64 (7 * t10)).toNat (IntKind.bits .u64))))) t9 (IntKind.wrap .i64 (t10 + 1))
          else none
      else none
    else
      some (.inr ())
def f24_varint_Get_L3_k (w : (Int × Int) ⊕ (Unit)) (o : Out) : Prop := match w with
  | .inl e => o = f24_varint_Get_out e
  | .inr e => At Go.Proofs.Try.prog Go.Proofs.Try.f24 0 12 ⟨[], [], [], 0⟩ o
theorem f24_varint_Get_L3_ok (n : Nat) : ∀ (b : List Int) (n_ : Int) (t9 : Int) (t10 : Int) (w : (Int × Int) ⊕ (Unit)) (h : f24_varint_Get_L3 n b n_ t9 t10 = some w) (o : Out) (hk : f24_varint_Get_L3_k w o), At Go.Proofs.Try.prog Go.Proofs.Try.f24 0 3 ⟨[(0, .one (.c (.d (.sl (.int .u8) b)))), (4, .one (.c (.d (.int .u64 n_)))), (9, .one (.c (.d (.int .i64 t9)))), (10, .one (.c (.d (.int .i64 t10))))], [], [], 0⟩ o := by
  induction n with
  | zero => intro b n_ t9 t10 w h; rw [f24_varint_Get_L3] at h; cases h
  | succ n ih =>
    intro b n_ t9 t10 w h o hk
    rw [f24_varint_Get_L3] at h
    rcases iteS h with ⟨b53_e0, h⟩ | ⟨b53_e0, h⟩
    · refine At.step hm ht ⟨[], [true], [], [0, 4, 9, 10], []⟩ 4 ⟨[(0, .one (.c (.d (.sl (.int .u8) b)))), (4, .one (.c (.d (.int .u64 n_)))), (9, .one (.c (.d (.int .i64 t9)))), (10, .one (.c (.d (.int .i64 t10))))], [], [], 0⟩ [(decide ((t10 : Int) < t9)) = true] (by kernel_rfl) ⟨b53_e0, trivial⟩ ?_
      refine At.step hm ht ⟨[], [], [], [0, 4, 5, 9, 10], []⟩ 5 ⟨[(0, .one (.c (.d (.sl (.int .u8) b)))), (4, .one (.c (.d (.int .u64 n_)))), (5, .one (.c (.d (.int .i64 t10)))), (9, .one (.c (.d (.int .i64 t9)))), (10, .one (.c (.d (.int .i64 t10))))], [], [], 0⟩ [] (by kernel_rfl) trivial ?_
      obtain ⟨g55_0, h⟩ := ifS h
      refine At.step hm ht ⟨[], [], [], [0, 4, 5, 6, 9, 10], []⟩ 6 ⟨[(0, .one (.c (.d (.sl (.int .u8) b)))), (4, .one (.c (.d (.int .u64 n_)))), (5, .one (.c (.d (.int .i64 t10)))), (6, .one (.c (.d (.int .u8 (b.getD t10.toNat 0))))), (9, .one (.c (.d (.int .i64 t9)))), (10, .one (.c (.d (.int .i64 t10))))], [], [], 0⟩ [(0 : Int) ≤ t10 ∧ t10 < (((b).length : Nat) : Int)] (by kernel_rfl) ⟨g55_0, trivial⟩ ?_
      rcases iteS h with ⟨b56_2, h⟩ | ⟨b56_2, h⟩
      · rcases iteS h with ⟨b56_6, h⟩ | ⟨b56_6, h⟩
        · refine At.step hm ht ⟨[(2, .b true), (6, .b true)], [true], [], [], []⟩ 7 ⟨[], [], [], 0⟩ [((t10 : Int) == 9) = true, (decide (((b.getD t10.toNat 0) : Int) > 1)) = true, true = true] (by kernel_rfl) ⟨b56_2, b56_6, rfl, trivial⟩ ?_
          have h := Option.some.inj h
          subst h
          have hk : o = f24_varint_Get_out (0, 0) := hk
          subst hk
          exact At.fin hm ht ⟨[], [], [], [2, 3], []⟩ [] (by kernel_rfl) trivial
        · rcases iteS h with ⟨b56_9, h⟩ | ⟨b56_9, h⟩
          · rcases iteS h with ⟨b56_e0, h⟩ | ⟨b56_e0, h⟩
            · refine At.step hm ht ⟨[(2, .b true), (6, .b false), (9, .b true)], [true], [], [], []⟩ 7 ⟨[], [], [], 0⟩ [((t10 : Int) == 9) = true, (decide (((b.getD t10.toNat 0) : Int) > 1)) = false, (decide ((t10 : Int) > 0)) = true, (((b.getD t10.toNat 0) : Int) == 0) = true] (by kernel_rfl) ⟨b56_2, b56_6, b56_9, b56_e0, trivial⟩ ?_
              have h := Option.some.inj h
              subst h
              have hk : o = f24_varint_Get_out (0, 0) := hk
              subst hk
              exact At.fin hm ht ⟨[], [], [], [2, 3], []⟩ [] (by kernel_rfl) trivial
            · refine At.step hm ht ⟨[(2, .b true), (6, .b false), (9, .b true)], [false], [], [0, 4, 5, 6, 9, 10], []⟩ 8 ⟨[(0, .one (.c (.d (.sl (.int .u8) b)))), (4, .one (.c (.d (.int .u64 n_)))), (5, .one (.c (.d (.int .i64 t10)))), (6, .one (.c (.d (.int .u8 (b.getD t10.toNat 0))))), (9, .one (.c (.d (.int .i64 t9)))), (10, .one (.c (.d (.int .i64 t10))))], [], [], 0⟩ [((t10 : Int) == 9) = true, (decide (((b.getD t10.toNat 0) : Int) > 1)) = false, (decide ((t10 : Int) > 0)) = true, (((b.getD t10.toNat 0) : Int) == 0) = false] (by kernel_rfl) ⟨b56_2, b56_6, b56_9, b56_e0, trivial⟩ ?_
              obtain ⟨g59_0, h⟩ := ifS h
              refine At.step hm ht ⟨[], [], [], [0, 4, 5, 6, 9, 10], []⟩ 9 ⟨[(0, .one (.c (.d (.sl (.int .u8) b)))), (4, .one (.c (.d (.int .u64 (bits .or .u64 n_ (IntKind.wrap .u64 ((IntKind.wrap .u64 (bits .and .u8 (b.getD t10.toNat 0) 127)) * 2 ^ (min (IntKind.wrap .i64 (7 * t10)).toNat (IntKind.bits .u64))))))))), (5, .one (.c (.d (.int .i64 t10)))), (6, .one (.c (.d (.int .u8 (b.getD t10.toNat 0))))), (9, .one (.c (.d (.int .i64 t9)))), (10, .one (.c (.d (.int .i64 t10))))], [], [], 0⟩ [(0 : Int) ≤ (IntKind.wrap .i64 (7 * t10))] (by kernel_rfl) ⟨g59_0, trivial⟩ ?_
              rcases iteS h with ⟨b60_e0, h⟩ | ⟨b60_e0, h⟩
              · refine At.step hm ht ⟨[], [true], [], [4, 5], []⟩ 10 ⟨[(4, .one (.c (.d (.int .u64 (bits .or .u64 n_ (IntKind.wrap .u64 ((IntKind.wrap .u64 (bits .and .u8 (b.getD t10.toNat 0) 127)) * 2 ^ (min (IntKind.wrap .i64 (7 * t10)).toNat (IntKind.bits .u64))))))))), (5, .one (.c (.d (.int .i64 t10))))], [], [], 0⟩ [(decide (((b.getD t10.toNat 0) : Int) < 128)) = true] (by kernel_rfl) ⟨b60_e0, trivial⟩ ?_
                have h := Option.some.inj h
                subst h
                have hk : o = f24_varint_Get_out ((bits .or .u64 n_ (IntKind.wrap .u64 ((IntKind.wrap .u64 (bits .and .u8 (b.getD t10.toNat 0) 127)) * 2 ^ (min (IntKind.wrap .i64 (7 * t10)).toNat (IntKind.bits .u64))))), (IntKind.wrap .i64 (t10 + 1))) := hk
                subst hk
                exact At.fin hm ht ⟨[], [], [], [2, 3], []⟩ [] (by kernel_rfl) trivial
              · refine At.step hm ht ⟨[], [false], [], [0, 4, 9, 10], []⟩ 11 ⟨[(0, .one (.c (.d (.sl (.int .u8) b)))), (4, .one (.c (.d (.int .u64 (bits .or .u64 n_ (IntKind.wrap .u64 ((IntKind.wrap .u64 (bits .and .u8 (b.getD t10.toNat 0) 127)) * 2 ^ (min (IntKind.wrap .i64 (7 * t10)).toNat (IntKind.bits .u64))))))))), (9, .one (.c (.d (.int .i64 t9)))), (10, .one (.c (.d (.int .i64 t10))))], [], [], 0⟩ [(decide (((b.getD t10.toNat 0) : Int) < 128)) = false] (by kernel_rfl) ⟨b60_e0, trivial⟩ ?_
                refine At.step hm ht ⟨[], [], [], [0, 4, 9, 10], []⟩ 3 ⟨[(0, .one (.c (.d (.sl (.int .u8) b)))), (4, .one (.c (.d (.int .u64 (bits .or .u64 n_ (IntKind.wrap .u64 ((IntKind.wrap .u64 (bits .and .u8 (b.getD t10.toNat 0) 127)) * 2 ^ (min (IntKind.wrap .i64 (7 * t10)).toNat (IntKind.bits .u64))))))))), (9, .one (.c (.d (.int .i64 t9)))), (10, .one (.c (.d (.int .i64 (IntKind.wrap .i64 (t10 + 1))))))], [], [], 0⟩ [] (by kernel_rfl) trivial ?_
                exact ih b (bits .or .u64 n_ (IntKind.wrap .u64 ((IntKind.wrap .u64 (bits .and .u8 (b.getD t10.toNat 0) 127)) * 2 ^ (min (IntKind.wrap .i64 (7 * t10)).toNat (IntKind.bits .u64))))) t9 (IntKind.wrap .i64 (t10 + 1)) w h o hk
          · refine At.step hm ht ⟨[(2, .b true), (6, .b false), (9, .b false)], [false], [], [0, 4, 5, 6, 9, 10], []⟩ 8 ⟨[(0, .one (.c (.d (.sl (.int .u8) b)))), (4, .one (.c (.d (.int .u64 n_)))), (5, .one (.c (.d (.int .i64 t10)))), (6, .one (.c (.d (.int .u8 (b.getD t10.toNat 0))))), (9, .one (.c (.d (.int .i64 t9)))), (10, .one (.c (.d (.int .i64 t10))))], [], [], 0⟩ [((t10 : Int) == 9) = true, (decide (((b.getD t10.toNat 0) : Int) > 1)) = false, (decide ((t10 : Int) > 0)) = false, false = false] (by kernel_rfl) ⟨b56_2, b56_6, b56_9, rfl, trivial⟩ ?_
            obtain ⟨g63_0, h⟩ := ifS h
            refine At.step hm ht ⟨[], [], [], [0, 4, 5, 6, 9, 10], []⟩ 9 ⟨[(0, .one (.c (.d (.sl (.int .u8) b)))), (4, .one (.c (.d (.int .u64 (bits .or .u64 n_ (IntKind.wrap .u64 ((IntKind.wrap .u64 (bits .and .u8 (b.getD t10.toNat 0) 127)) * 2 ^ (min (IntKind.wrap .i64 (7 * t10)).toNat (IntKind.bits .u64))))))))), (5, .one (.c (.d (.int .i64 t10)))), (6, .one (.c (.d (.int .u8 (b.getD t10.toNat 0))))), (9, .one (.c (.d (.int .i64 t9)))), (10, .one (.c (.d (.int .i64 t10))))], [], [], 0⟩ [(0 : Int) ≤ (IntKind.wrap .i64 (7 * t10))] (by kernel_rfl) ⟨g63_0, trivial⟩ ?_
            rcases iteS h with ⟨b64_e0, h⟩ | ⟨b64_e0, h⟩
            · refine At.step hm ht ⟨[], [true], [], [4, 5], []⟩ 10 ⟨[(4, .one (.c (.d (.int .u64 (bits .or .u64 n_ (IntKind.wrap .u64 ((IntKind.wrap .u64 (bits .and .u8 (b.getD t10.toNat 0) 127)) * 2 ^ (min (IntKind.wrap .i64 (7 * t10)).toNat (IntKind.bits .u64))))))))), (5, .one (.c (.d (.int .i64 t10))))], [], [], 0⟩ [(decide (((b.getD t10.toNat 0) : Int) < 128)) = true] (by kernel_rfl) ⟨b64_e0, trivial⟩ ?_
              have h := Option.some.inj h
              subst h
              have hk : o = f24_varint_Get_out ((bits .or .u64 n_ (IntKind.wrap .u64 ((IntKind.wrap .u64 (bits .and .u8 (b.getD t10.toNat 0) 127)) * 2 ^ (min (IntKind.wrap .i64 (7 * t10)).toNat (IntKind.bits .u64))))), (IntKind.wrap .i64 (t10 + 1))) := hk
              subst hk
              exact At.fin hm ht ⟨[], [], [], [2, 3], []⟩ [] (by kernel_rfl) trivial
            · refine At.step hm ht ⟨[], [false], [], [0, 4, 9, 10], []⟩ 11 ⟨[(0, .one (.c (.d (.sl (.int .u8) b)))), (4, .one (.c (.d (.int .u64 (bits .or .u64 n_ (IntKind.wrap .u64 ((IntKind.wrap .u64 (bits .and .u8 (b.getD t10.toNat 0) 127)) * 2 ^ (min (IntKind.wrap .i64 (7 * t10)).toNat (IntKind.bits .u64))))))))), (9, .one (.c (.d (.int .i64 t9)))), (10, .one (.c (.d (.int .i64 t10))))], [], [], 0⟩ [(decide (((b.getD t10.toNat 0) : Int) < 128)) = false] (by kernel_rfl) ⟨b64_e0, trivial⟩ ?_
              refine At.step hm ht ⟨[], [], [], [0, 4, 9, 10], []⟩ 3 ⟨[(0, .one (.c (.d (.sl (.int .u8) b)))), (4, .one (.c (.d (.int .u64 (bits .or .u64 n_ (IntKind.wrap .u64 ((IntKind.wrap .u64 (bits .and .u8 (b.getD t10.toNat 0) 127)) * 2 ^ (min (IntKind.wrap .i64 (7 * t10)).toNat (IntKind.bits .u64))))))))), (9, .one (.c (.d (.int .i64 t9)))), (10, .one (.c (.d (.int .i64 (IntKind.wrap .i64 (t10 + 1))))))], [], [], 0⟩ [] (by kernel_rfl) trivial ?_
              exact ih b (bits .or .u64 n_ (IntKind.wrap .u64 ((IntKind.wrap .u64 (bits .and .u8 (b.getD t10.toNat 0) 127)) * 2 ^ (min (IntKind.wrap .i64 (7 * t10)).toNat (IntKind.bits .u64))))) t9 (IntKind.wrap .i64 (t10 + 1)) w h o hk
      · rcases iteS h with ⟨b56_9, h⟩ | ⟨b56_9, h⟩
        · rcases iteS h with ⟨b56_e0, h⟩ | ⟨b56_e0, h⟩
          · refine At.step hm ht ⟨[(2, .b false), (9, .b true)], [true], [], [], []⟩ 7 ⟨[], [], [], 0⟩ [((t10 : Int) == 9) = false, (decide ((t10 : Int) > 0)) = true, (((b.getD t10.toNat 0) : Int) == 0) = true] (by kernel_rfl) ⟨b56_2, b56_9, b56_e0, trivial⟩ ?_
            have h := Option.some.inj h
            subst h
            have hk : o = f24_varint_Get_out (0, 0) := hk
            subst hk
            exact At.fin hm ht ⟨[], [], [], [2, 3], []⟩ [] (by kernel_rfl) trivial
          · refine At.step hm ht ⟨[(2, .b false), (9, .b true)], [false], [], [0, 4, 5, 6, 9, 10], []⟩ 8 ⟨[(0, .one (.c (.d (.sl (.int .u8) b)))), (4, .one (.c (.d (.int .u64 n_)))), (5, .one (.c (.d (.int .i64 t10)))), (6, .one (.c (.d (.int .u8 (b.getD t10.toNat 0))))), (9, .one (.c (.d (.int .i64 t9)))), (10, .one (.c (.d (.int .i64 t10))))], [], [], 0⟩ [((t10 : Int) == 9) = false, (decide ((t10 : Int) > 0)) = true, (((b.getD t10.toNat 0) : Int) == 0) = false] (by kernel_rfl) ⟨b56_2, b56_9, b56_e0, trivial⟩ ?_
            obtain ⟨g68_0, h⟩ := ifS h
            refine At.step hm ht ⟨[], [], [], [0, 4, 5, 6, 9, 10], []⟩ 9 ⟨[(0, .one (.c (.d (.sl (.int .u8) b)))), (4, .one (.c (.d (.int .u64 (bits .or .u64 n_ (IntKind.wrap .u64 ((IntKind.wrap .u64 (bits .and .u8 (b.getD t10.toNat 0) 127)) * 2 ^ (min (IntKind.wrap .i64 (7 * t10)).toNat (IntKind.bits .u64))))))))), (5, .one (.c (.d (.int .i64 t10)))), (6, .one (.c (.d (.int .u8 (b.getD t10.toNat 0))))), (9, .one (.c (.d (.int .i64 t9)))), (10, .one (.c (.d (.int .i64 t10))))], [], [], 0⟩ [(0 : Int) ≤ (IntKind.wrap .i64 (7 * t10))] (by kernel_rfl) ⟨g68_0, trivial⟩ ?_
            rcases iteS h with ⟨b69_e0, h⟩ | ⟨b69_e0, h⟩
            · refine At.step hm ht ⟨[], [true], [], [4, 5], []⟩ 10 ⟨[(4, .one (.c (.d (.int .u64 (bits .or .u64 n_ (IntKind.wrap .u64 ((IntKind.wrap .u64 (bits .and .u8 (b.getD t10.toNat 0) 127)) * 2 ^ (min (IntKind.wrap .i64 (7 * t10)).toNat (IntKind.bits .u64))))))))), (5, .one (.c (.d (.int .i64 t10))))], [], [], 0⟩ [(decide (((b.getD t10.toNat 0) : Int) < 128)) = true] (by kernel_rfl) ⟨b69_e0, trivial⟩ ?_
              have h := Option.some.inj h
              subst h
              have hk : o = f24_varint_Get_out ((bits .or .u64 n_ (IntKind.wrap .u64 ((IntKind.wrap .u64 (bits .and .u8 (b.getD t10.toNat 0) 127)) * 2 ^ (min (IntKind.wrap .i64 (7 * t10)).toNat (IntKind.bits .u64))))), (IntKind.wrap .i64 (t10 + 1))) := hk
              subst hk
              exact At.fin hm ht ⟨[], [], [], [2, 3], []⟩ [] (by kernel_rfl) trivial
            · refine At.step hm ht ⟨[], [false], [], [0, 4, 9, 10], []⟩ 11 ⟨[(0, .one (.c (.d (.sl (.int .u8) b)))), (4, .one (.c (.d (.int .u64 (bits .or .u64 n_ (IntKind.wrap .u64 ((IntKind.wrap .u64 (bits .and .u8 (b.getD t10.toNat 0) 127)) * 2 ^ (min (IntKind.wrap .i64 (7 * t10)).toNat (IntKind.bits .u64))))))))), (9, .one (.c (.d (.int .i64 t9)))), (10, .one (.c (.d (.int .i64 t10))))], [], [], 0⟩ [(decide (((b.getD t10.toNat 0) : Int) < 128)) = false] (by kernel_rfl) ⟨b69_e0, trivial⟩ ?_
              refine At.step hm ht ⟨[], [], [], [0, 4, 9, 10], []⟩ 3 ⟨[(0, .one (.c (.d (.sl (.int .u8) b)))), (4, .one (.c (.d (.int .u64 (bits .or .u64 n_ (IntKind.wrap .u64 ((IntKind.wrap .u64 (bits .and .u8 (b.getD t10.toNat 0) 127)) * 2 ^ (min (IntKind.wrap .i64 (7 * t10)).toNat (IntKind.bits .u64))))))))), (9, .one (.c (.d (.int .i64 t9)))), (10, .one (.c (.d (.int .i64 (IntKind.wrap .i64 (t10 + 1))))))], [], [], 0⟩ [] (by kernel_rfl) trivial ?_
              exact ih b (bits .or .u64 n_ (IntKind.wrap .u64 ((IntKind.wrap .u64 (bits .and .u8 (b.getD t10.toNat 0) 127)) * 2 ^ (min (IntKind.wrap .i64 (7 * t10)).toNat (IntKind.bits .u64))))) t9 (IntKind.wrap .i64 (t10 + 1)) w h o hk
        · refine At.step hm ht ⟨[(2, .b false), (9, .b false)], [false], [], [0, 4, 5, 6, 9, 10], []⟩ 8 ⟨[(0, .one (.c (.d (.sl (.int .u8) b)))), (4, .one (.c (.d (.int .u64 n_)))), (5, .one (.c (.d (.int .i64 t10)))), (6, .one (.c (.d (.int .u8 (b.getD t10.toNat 0))))), (9, .one (.c (.d (.int .i64 t9)))), (10, .one (.c (.d (.int .i64 t10))))], [], [], 0⟩ [((t10 : Int) == 9) = false, (decide ((t10 : Int) > 0)) = false, false = false] (by kernel_rfl) ⟨b56_2, b56_9, rfl, trivial⟩ ?_
          obtain ⟨g72_0, h⟩ := ifS h
          refine At.step hm ht ⟨[], [], [], [0, 4, 5, 6, 9, 10], []⟩ 9 ⟨[(0, .one (.c (.d (.sl (.int .u8) b)))), (4, .one (.c (.d (.int .u64 (bits .or .u64 n_ (IntKind.wrap .u64 ((IntKind.wrap .u64 (bits .and .u8 (b.getD t10.toNat 0) 127)) * 2 ^ (min (IntKind.wrap .i64 (7 * t10)).toNat (IntKind.bits .u64))))))))), (5, .one (.c (.d (.int .i64 t10)))), (6, .one (.c (.d (.int .u8 (b.getD t10.toNat 0))))), (9, .one (.c (.d (.int .i64 t9)))), (10, .one (.c (.d (.int .i64 t10))))], [], [], 0⟩ [(0 : Int) ≤ (IntKind.wrap .i64 (7 * t10))] (by kernel_rfl) ⟨g72_0, trivial⟩ ?_
          rcases iteS h with ⟨b73_e0, h⟩ | ⟨b73_e0, h⟩
          · refine At.step hm ht ⟨[], [true], [], [4, 5], []⟩ 10 ⟨[(4, .one (.c (.d (.int .u64 (bits .or .u64 n_ (IntKind.wrap .u64 ((IntKind.wrap .u64 (bits .and .u8 (b.getD t10.toNat 0) 127)) * 2 ^ (min (IntKind.wrap .i64 (7 * t10)).toNat (IntKind.bits .u64))))))))), (5, .one (.c (.d (.int .i64 t10))))], [], [], 0⟩ [(decide (((b.getD t10.toNat 0) : Int) < 128)) = true] (by kernel_rfl) ⟨b73_e0, trivial⟩ ?_
            have h := Option.some.inj h
            subst h
            have hk : o = f24_varint_Get_out ((bits .or .u64 n_ (IntKind.wrap .u64 ((IntKind.wrap .u64 (bits .and .u8 (b.getD t10.toNat 0) 127)) * 2 ^ (min (IntKind.wrap .i64 (7 * t10)).toNat (IntKind.bits .u64))))), (IntKind.wrap .i64 (t10 + 1))) := hk
            subst hk
            exact At.fin hm ht ⟨[], [], [], [2, 3], []⟩ [] (by kernel_rfl) trivial
          · refine At.step hm ht ⟨[], [false], [], [0, 4, 9, 10], []⟩ 11 ⟨[(0, .one (.c (.d (.sl (.int .u8) b)))), (4, .one (.c (.d (.int .u64 (bits .or .u64 n_ (IntKind.wrap .u64 ((IntKind.wrap .u64 (bits .and .u8 (b.getD t10.toNat 0) 127)) * 2 ^ (min (IntKind.wrap .i64 (7 * t10)).toNat (IntKind.bits .u64))))))))), (9, .one (.c (.d (.int .i64 t9)))), (10, .one (.c (.d (.int .i64 t10))))], [], [], 0⟩ [(decide (((b.getD t10.toNat 0) : Int) < 128)) = false] (by kernel_rfl) ⟨b73_e0, trivial⟩ ?_
            refine At.step hm ht ⟨[], [], [], [0, 4, 9, 10], []⟩ 3 ⟨[(0, .one (.c (.d (.sl (.int .u8) b)))), (4, .one (.c (.d (.int .u64 (bits .or .u64 n_ (IntKind.wrap .u64 ((IntKind.wrap .u64 (bits .and .u8 (b.getD t10.toNat 0) 127)) * 2 ^ (min (IntKind.wrap .i64 (7 * t10)).toNat (IntKind.bits .u64))))))))), (9, .one (.c (.d (.int .i64 t9)))), (10, .one (.c (.d (.int .i64 (IntKind.wrap .i64 (t10 + 1))))))], [], [], 0⟩ [] (by kernel_rfl) trivial ?_
            exact ih b (bits .or .u64 n_ (IntKind.wrap .u64 ((IntKind.wrap .u64 (bits .and .u8 (b.getD t10.toNat 0) 127)) * 2 ^ (min (IntKind.wrap .i64 (7 * t10)).toNat (IntKind.bits .u64))))) t9 (IntKind.wrap .i64 (t10 + 1)) w h o hk
    · refine At.step hm ht ⟨[], [false], [], [], []⟩ 12 ⟨[], [], [], 0⟩ [(decide ((t10 : Int) < t9)) = false] (by kernel_rfl) ⟨b53_e0, trivial⟩ ?_
      have h := Option.some.inj h
      subst h
      exact hk
def f24_varint_Get (n : Nat) (b : List Int) : Option (Int × Int) :=
  (f24_varint_Get_L3 n b 0 (if 10 < ((b.length : Nat) : Int) then 10 else ((b.length : Nat) : Int)) 0).bind fun w76 =>
  match w76 with
  | .inl e77 =>
    some (e77.1, e77.2)
  | .inr e78 =>
    some (0, 0)
theorem f24_varint_Get_ok (n : Nat) (b : List Int) (r : Int × Int) (h : f24_varint_Get n b = some r) : FnOK Go.Proofs.Try.prog 24 (f24_varint_Get_in b) (f24_varint_Get_out r) := by
  unfold f24_varint_Get at h
  refine At.fn (r := 0) Go.Proofs.Try.func24 rfl (by kernel_rfl) rfl rfl (by kernel_rfl) ?_
  show At Go.Proofs.Try.prog Go.Proofs.Try.f24 0 0 ⟨[(0, .one (.c (.d (.sl (.int .u8) b))))], [], [], 0⟩ _
  refine At.step hm ht ⟨[], [], [], [0], []⟩ 1 ⟨[(0, .one (.c (.d (.sl (.int .u8) b))))], [], [], 0⟩ [] (by kernel_rfl) trivial ?_
  refine At.step hm ht ⟨[], [], [], [0, 4], []⟩ 2 ⟨[(0, .one (.c (.d (.sl (.int .u8) b)))), (4, .one (.c (.d (.int .u64 0))))], [], [], 0⟩ [] (by kernel_rfl) trivial ?_
  refine At.step hm ht ⟨[], [], [], [0, 4, 9, 10], []⟩ 3 ⟨[(0, .one (.c (.d (.sl (.int .u8) b)))), (4, .one (.c (.d (.int .u64 0)))), (9, .one (.c (.d (.int .i64 (if 10 < ((b.length : Nat) : Int) then 10 else ((b.length : Nat) : Int)))))), (10, .one (.c (.d (.int .i64 0))))], [], [], 0⟩ [] (by kernel_rfl) trivial ?_
  obtain ⟨w76, cw76, h⟩ := bindS h
  refine f24_varint_Get_L3_ok n b 0 (if 10 < ((b.length : Nat) : Int) then 10 else ((b.length : Nat) : Int)) 0 w76 cw76 _ ?_
  rcases w76 with e77 | e78
  · have h := Option.some.inj h
    subst h
    rfl
  · show At Go.Proofs.Try.prog Go.Proofs.Try.f24 0 12 ⟨[], [], [], 0⟩ _
    have h := Option.some.inj h
    subst h
    exact At.fin hm ht ⟨[], [], [], [2, 3], []⟩ [] (by kernel_rfl) trivial
/-! brougham/varint.Fold -/
def f62_varint_Fold_in (n_ : Int) : Inn := ⟨[.c (.d (.int .i64 n_))], [], [], 0⟩
def f62_varint_Fold_out (r : Int) : Out := ⟨.one (.c (.d (.int .u64 r))), [], [], 0⟩
def f62_varint_Fold (n_ : Int) : Option (Int) :=
  some (bits .xor .u64 (IntKind.wrap .u64 (IntKind.wrap .i64 (n_ * 2 ^ 1))) (IntKind.wrap .u64 (Int.fdiv n_ (2 ^ 63))))
theorem f62_varint_Fold_ok (n_ : Int) (r : Int) (h : f62_varint_Fold n_ = some r) : FnOK Go.Proofs.Try.prog 62 (f62_varint_Fold_in n_) (f62_varint_Fold_out r) := by
  unfold f62_varint_Fold at h
  refine At.fn (r := 0) Go.Proofs.Try.func62 rfl (by kernel_rfl) rfl rfl (by kernel_rfl) ?_
  show At Go.Proofs.Try.prog Go.Proofs.Try.f62 0 0 ⟨[(0, .one (.c (.d (.int .i64 n_))))], [], [], 0⟩ _
  refine At.step hm ht ⟨[], [], [], [0], []⟩ 1 ⟨[(0, .one (.c (.d (.int .i64 n_))))], [], [], 0⟩ [] (by kernel_rfl) trivial ?_
  have h := Option.some.inj h
  subst h
  exact At.fin hm ht ⟨[], [], [], [2], []⟩ [(0 : Int) ≤ 1, (0 : Int) ≤ 63] (by kernel_rfl) ⟨(by decide), (by decide), trivial⟩
/-! brougham/varint.Unfold -/
def f61_varint_Unfold_in (n_ : Int) : Inn := ⟨[.c (.d (.int .u64 n_))], [], [], 0⟩
def f61_varint_Unfold_out (r : Int) : Out := ⟨.one (.c (.d (.int .i64 r))), [], [], 0⟩
def f61_varint_Unfold (n_ : Int) : Option (Int) :=
  some (bits .xor .i64 (IntKind.wrap .i64 (Int.fdiv n_ (2 ^ 1))) (IntKind.wrap .i64 (0 - (IntKind.wrap .i64 (bits .and .u64 n_ 1)))))
theorem f61_varint_Unfold_ok (n_ : Int) (r : Int) (h : f61_varint_Unfold n_ = some r) : FnOK Go.Proofs.Try.prog 61 (f61_varint_Unfold_in n_) (f61_varint_Unfold_out r) := by
  unfold f61_varint_Unfold at h
  refine At.fn (r := 0) Go.Proofs.Try.func61 rfl (by kernel_rfl) rfl rfl (by kernel_rfl) ?_
  show At Go.Proofs.Try.prog Go.Proofs.Try.f61 0 0 ⟨[(0, .one (.c (.d (.int .u64 n_))))], [], [], 0⟩ _
  refine At.step hm ht ⟨[], [], [], [0], []⟩ 1 ⟨[(0, .one (.c (.d (.int .u64 n_))))], [], [], 0⟩ [] (by kernel_rfl) trivial ?_
  have h := Option.some.inj h
  subst h
  exact At.fin hm ht ⟨[], [], [], [2], []⟩ [(0 : Int) ≤ 1] (by kernel_rfl) ⟨(by decide), trivial⟩
/-! brougham/broughamlaw43.alive -/
def f23_broughamlaw43_alive_in : Inn := ⟨[], [], [], 0⟩
def f23_broughamlaw43_alive_out (r : Bool) : Out := ⟨.one (.c (.d (.bool r))), [], [], 0⟩
def f23_broughamlaw43_alive (n : Nat) : Option (Bool) :=
  (f24_varint_Get n [172, 2]).bind fun r49_0 =>
  (f22_varint_Put n [] [300]).bind fun r80_0 =>
  if ((strOfNums r80_0).toList == (⟨#[172, 2]⟩ : ByteArray).toList) = true then
    if ((r49_0.1 : Int) == 300) = true then
      if ((r49_0.2 : Int) == 2) = true then
        (f62_varint_Fold (-1)).bind fun r80_1 =>
        if ((r80_1 : Int) == 1) = true then
          (f61_varint_Unfold 1).bind fun r80_2 =>
          if ((r80_2 : Int) == (-1)) = true then
            some true
          else
            some false
        else
          some false
      else
        some false
    else
      some false
  else
    some false
theorem f23_broughamlaw43_alive_ok (n : Nat) (r : Bool) (h : f23_broughamlaw43_alive n = some r) : FnOK Go.Proofs.Try.prog 23 (f23_broughamlaw43_alive_in) (f23_broughamlaw43_alive_out r) := by
  unfold f23_broughamlaw43_alive at h
  refine At.fn (r := 0) Go.Proofs.Try.func23 rfl (by kernel_rfl) rfl rfl (by kernel_rfl) ?_
  show At Go.Proofs.Try.prog Go.Proofs.Try.f23 0 0 ⟨[], [], [], 0⟩ _
  refine At.step hm ht ⟨[], [], [], [], []⟩ 1 ⟨[], [], [], 0⟩ [] (by kernel_rfl) trivial ?_
  obtain ⟨r49_0, cr49_0, h⟩ := bindS h
  refine At.step hm ht ⟨[(1, .call [] [] (f24_varint_Get_out r49_0))], [], [], [1, 2], []⟩ 2 ⟨[(1, .one (.c (.d (.int .u64 r49_0.1)))), (2, .one (.c (.d (.int .i64 r49_0.2))))], [], [], 0⟩ [FnOK Go.Proofs.Try.prog 24 (f24_varint_Get_in [172, 2]) (f24_varint_Get_out r49_0)] (by kernel_rfl) ⟨(f24_varint_Get_ok n [172, 2] r49_0 cr49_0), trivial⟩ ?_
  obtain ⟨r80_0, cr80_0, h⟩ := bindS h
  rcases iteS h with ⟨b80_4, h⟩ | ⟨b80_4, h⟩
  · rcases iteS h with ⟨b80_8, h⟩ | ⟨b80_8, h⟩
    · rcases iteS h with ⟨b80_12, h⟩ | ⟨b80_12, h⟩
      · obtain ⟨r80_1, cr80_1, h⟩ := bindS h
        rcases iteS h with ⟨b80_16, h⟩ | ⟨b80_16, h⟩
        · obtain ⟨r80_2, cr80_2, h⟩ := bindS h
          rcases iteS h with ⟨b80_20, h⟩ | ⟨b80_20, h⟩
          · have h := Option.some.inj h
            subst h
            exact At.fin hm ht ⟨[(1, .call [] [(0, 0, (.int .u8))] (f22_varint_Put_out r80_0)), (4, .b true), (8, .b true), (12, .b true), (13, .call [] [] (f62_varint_Fold_out r80_1)), (16, .b true), (17, .call [] [] (f61_varint_Unfold_out r80_2)), (20, .b true)], [], [], [0], []⟩ [FnOK Go.Proofs.Try.prog 22 (f22_varint_Put_in [] [300]) (f22_varint_Put_out r80_0), ((strOfNums r80_0).toList == (⟨#[172, 2]⟩ : ByteArray).toList) = true, ((r49_0.1 : Int) == 300) = true, ((r49_0.2 : Int) == 2) = true, FnOK Go.Proofs.Try.prog 62 (f62_varint_Fold_in (-1)) (f62_varint_Fold_out r80_1), ((r80_1 : Int) == 1) = true, FnOK Go.Proofs.Try.prog 61 (f61_varint_Unfold_in 1) (f61_varint_Unfold_out r80_2), ((r80_2 : Int) == (-1)) = true] (by kernel_rfl) ⟨(f22_varint_Put_ok n [] [300] r80_0 cr80_0), b80_4, b80_8, b80_12, (f62_varint_Fold_ok (-1) r80_1 cr80_1), b80_16, (f61_varint_Unfold_ok 1 r80_2 cr80_2), b80_20, trivial⟩
          · have h := Option.some.inj h
            subst h
            exact At.fin hm ht ⟨[(1, .call [] [(0, 0, (.int .u8))] (f22_varint_Put_out r80_0)), (4, .b true), (8, .b true), (12, .b true), (13, .call [] [] (f62_varint_Fold_out r80_1)), (16, .b true), (17, .call [] [] (f61_varint_Unfold_out r80_2)), (20, .b false)], [], [], [0], []⟩ [FnOK Go.Proofs.Try.prog 22 (f22_varint_Put_in [] [300]) (f22_varint_Put_out r80_0), ((strOfNums r80_0).toList == (⟨#[172, 2]⟩ : ByteArray).toList) = true, ((r49_0.1 : Int) == 300) = true, ((r49_0.2 : Int) == 2) = true, FnOK Go.Proofs.Try.prog 62 (f62_varint_Fold_in (-1)) (f62_varint_Fold_out r80_1), ((r80_1 : Int) == 1) = true, FnOK Go.Proofs.Try.prog 61 (f61_varint_Unfold_in 1) (f61_varint_Unfold_out r80_2), ((r80_2 : Int) == (-1)) = false] (by kernel_rfl) ⟨(f22_varint_Put_ok n [] [300] r80_0 cr80_0), b80_4, b80_8, b80_12, (f62_varint_Fold_ok (-1) r80_1 cr80_1), b80_16, (f61_varint_Unfold_ok 1 r80_2 cr80_2), b80_20, trivial⟩
        · have h := Option.some.inj h
          subst h
          exact At.fin hm ht ⟨[(1, .call [] [(0, 0, (.int .u8))] (f22_varint_Put_out r80_0)), (4, .b true), (8, .b true), (12, .b true), (13, .call [] [] (f62_varint_Fold_out r80_1)), (16, .b false)], [], [], [0], []⟩ [FnOK Go.Proofs.Try.prog 22 (f22_varint_Put_in [] [300]) (f22_varint_Put_out r80_0), ((strOfNums r80_0).toList == (⟨#[172, 2]⟩ : ByteArray).toList) = true, ((r49_0.1 : Int) == 300) = true, ((r49_0.2 : Int) == 2) = true, FnOK Go.Proofs.Try.prog 62 (f62_varint_Fold_in (-1)) (f62_varint_Fold_out r80_1), ((r80_1 : Int) == 1) = false] (by kernel_rfl) ⟨(f22_varint_Put_ok n [] [300] r80_0 cr80_0), b80_4, b80_8, b80_12, (f62_varint_Fold_ok (-1) r80_1 cr80_1), b80_16, trivial⟩
      · have h := Option.some.inj h
        subst h
        exact At.fin hm ht ⟨[(1, .call [] [(0, 0, (.int .u8))] (f22_varint_Put_out r80_0)), (4, .b true), (8, .b true), (12, .b false)], [], [], [0], []⟩ [FnOK Go.Proofs.Try.prog 22 (f22_varint_Put_in [] [300]) (f22_varint_Put_out r80_0), ((strOfNums r80_0).toList == (⟨#[172, 2]⟩ : ByteArray).toList) = true, ((r49_0.1 : Int) == 300) = true, ((r49_0.2 : Int) == 2) = false] (by kernel_rfl) ⟨(f22_varint_Put_ok n [] [300] r80_0 cr80_0), b80_4, b80_8, b80_12, trivial⟩
    · have h := Option.some.inj h
      subst h
      exact At.fin hm ht ⟨[(1, .call [] [(0, 0, (.int .u8))] (f22_varint_Put_out r80_0)), (4, .b true), (8, .b false)], [], [], [0], []⟩ [FnOK Go.Proofs.Try.prog 22 (f22_varint_Put_in [] [300]) (f22_varint_Put_out r80_0), ((strOfNums r80_0).toList == (⟨#[172, 2]⟩ : ByteArray).toList) = true, ((r49_0.1 : Int) == 300) = false] (by kernel_rfl) ⟨(f22_varint_Put_ok n [] [300] r80_0 cr80_0), b80_4, b80_8, trivial⟩
  · have h := Option.some.inj h
    subst h
    exact At.fin hm ht ⟨[(1, .call [] [(0, 0, (.int .u8))] (f22_varint_Put_out r80_0)), (4, .b false)], [], [], [0], []⟩ [FnOK Go.Proofs.Try.prog 22 (f22_varint_Put_in [] [300]) (f22_varint_Put_out r80_0), ((strOfNums r80_0).toList == (⟨#[172, 2]⟩ : ByteArray).toList) = false] (by kernel_rfl) ⟨(f22_varint_Put_ok n [] [300] r80_0 cr80_0), b80_4, trivial⟩
/-! brougham/broughamlaw43.VarintWrites -/
def f4_broughamlaw43_VarintWrites_in (b : List Int) (l : List Int) : Inn := ⟨[.c (.d (.sl (.int .u8) b)), .c (.d (.sl (.int .u64) l))], [], [], 0⟩
def f4_broughamlaw43_VarintWrites_out (r : Bool) : Out := ⟨.one (.c (.d (.bool r))), [], [], 0⟩
def f4_broughamlaw43_VarintWrites_L5 : Nat → (List Int) → (List Int) → (List Int) → Int → Option ((Bool) ⊕ (List Int × List Int × List Int))
  | 0, _, _, _, _ => none
  | n + 1, b, l, want, i =>
    if (decide ((i : Int) < ((l.length : Nat) : Int))) = true then
      if (0 : Int) ≤ i ∧ i < (((l).length : Nat) : Int) then
      (f20_broughamref43_Put n (l.getD i.toNat 0)).bind fun r8_1 =>
      if (0 : Int) ≤ i ∧ i < (((l).length : Nat) : Int) then
      (f21_varint_Size n (l.getD i.toNat 0)).bind fun r17_1 =>
      if ((r17_1 : Int) != ((r8_1.length : Nat) : Int)) = true then
        some (.inl false)
      else
        if want.length + r8_1.length ≤ maxLen ∧ (want.length + r8_1.length) * 1 ≤ 140737488355328 then
        f4_broughamlaw43_VarintWrites_L5 n b l (want ++ r8_1) (IntKind.wrap .i64 (i + 1))
        else none
      else none
      else none
    else
      some (.inr ((b, l, want)))
def f4_broughamlaw43_VarintWrites_L5_k (w : (Bool) ⊕ (List Int × List Int × List Int)) (o : Out) : Prop := match w with
  | .inl e => o = f4_broughamlaw43_VarintWrites_out e
  | .inr e => At Go.Proofs.Try.prog Go.Proofs.Try.f4 0 11 ⟨[(0, .one (.c (.d (.sl (.int .u8) e.1)))), (1, .one (.c (.d (.sl (.int .u64) e.2.1)))), (5, .one (.c (.own 0 (.int .u8) e.2.2)))], [(0, some ⟨5, 0⟩)], [], 1⟩ o
theorem f4_broughamlaw43_VarintWrites_L5_ok (n : Nat) : ∀ (b : List Int) (l : List Int) (want : List Int) (i : Int) (w : (Bool) ⊕ (List Int × List Int × List Int)) (h : f4_broughamlaw43_VarintWrites_L5 n b l want i = some w) (o : Out) (hk : f4_broughamlaw43_VarintWrites_L5_k w o), At Go.Proofs.Try.prog Go.Proofs.Try.f4 0 5 ⟨[(0, .one (.c (.d (.sl (.int .u8) b)))), (1, .one (.c (.d (.sl (.int .u64) l)))), (5, .one (.c (.own 0 (.int .u8) want))), (6, .one (.c (.d (.int .i64 i))))], [(0, some ⟨5, 0⟩)], [], 1⟩ o := by
  induction n with
  | zero => intro b l want i w h; rw [f4_broughamlaw43_VarintWrites_L5] at h; cases h
  | succ n ih =>
    intro b l want i w h o hk
    rw [f4_broughamlaw43_VarintWrites_L5] at h
    rcases iteS h with ⟨b7_e0, h⟩ | ⟨b7_e0, h⟩
    · refine At.step hm ht ⟨[], [true], [], [0, 1, 5, 6], [0]⟩ 7 ⟨[(0, .one (.c (.d (.sl (.int .u8) b)))), (1, .one (.c (.d (.sl (.int .u64) l)))), (5, .one (.c (.own 0 (.int .u8) want))), (6, .one (.c (.d (.int .i64 i))))], [(0, some ⟨5, 0⟩)], [], 1⟩ [(decide ((i : Int) < ((l.length : Nat) : Int))) = true] (by kernel_rfl) ⟨b7_e0, trivial⟩ ?_
      obtain ⟨g8_0, h⟩ := ifS h
      obtain ⟨r8_1, cr8_1, h⟩ := bindS h
      refine At.step hm ht ⟨[(4, .call [] [] (f20_broughamref43_Put_out r8_1))], [], [], [0, 1, 5, 6, 7], [0, 5]⟩ 8 ⟨[(0, .one (.c (.d (.sl (.int .u8) b)))), (1, .one (.c (.d (.sl (.int .u64) l)))), (5, .one (.c (.own 0 (.int .u8) want))), (6, .one (.c (.d (.int .i64 i)))), (7, .one (.c (.own 1 (.int .u8) r8_1)))], [(0, some ⟨5, 0⟩), (1, some ⟨5, 0⟩)], [], 2⟩ [(0 : Int) ≤ i ∧ i < (((l).length : Nat) : Int), FnOK Go.Proofs.Try.prog 20 (f20_broughamref43_Put_in (l.getD i.toNat 0)) (f20_broughamref43_Put_out r8_1)] (by kernel_rfl) ⟨g8_0, (f20_broughamref43_Put_ok n (l.getD i.toNat 0) r8_1 cr8_1), trivial⟩ ?_
      obtain ⟨g17_0, h⟩ := ifS h
      obtain ⟨r17_1, cr17_1, h⟩ := bindS h
      rcases iteS h with ⟨b17_e0, h⟩ | ⟨b17_e0, h⟩
      · refine At.step hm ht ⟨[(4, .call [] [] (f21_varint_Size_out r17_1))], [true], [], [], []⟩ 9 ⟨[], [], [], 0⟩ [(0 : Int) ≤ i ∧ i < (((l).length : Nat) : Int), FnOK Go.Proofs.Try.prog 21 (f21_varint_Size_in (l.getD i.toNat 0)) (f21_varint_Size_out r17_1), ((r17_1 : Int) != ((r8_1.length : Nat) : Int)) = true] (by kernel_rfl) ⟨g17_0, (f21_varint_Size_ok n (l.getD i.toNat 0) r17_1 cr17_1), b17_e0, trivial⟩ ?_
        have h := Option.some.inj h
        subst h
        have hk : o = f4_broughamlaw43_VarintWrites_out false := hk
        subst hk
        exact At.fin hm ht ⟨[], [], [], [4], []⟩ [] (by kernel_rfl) trivial
      · refine At.step hm ht ⟨[(4, .call [] [] (f21_varint_Size_out r17_1))], [false], [], [0, 1, 5, 6, 7], [0, 1]⟩ 10 ⟨[(0, .one (.c (.d (.sl (.int .u8) b)))), (1, .one (.c (.d (.sl (.int .u64) l)))), (5, .one (.c (.own 0 (.int .u8) want))), (6, .one (.c (.d (.int .i64 i)))), (7, .one (.c (.own 1 (.int .u8) r8_1)))], [(0, some ⟨5, 0⟩), (1, some ⟨5, 0⟩)], [], 2⟩ [(0 : Int) ≤ i ∧ i < (((l).length : Nat) : Int), FnOK Go.Proofs.Try.prog 21 (f21_varint_Size_in (l.getD i.toNat 0)) (f21_varint_Size_out r17_1), ((r17_1 : Int) != ((r8_1.length : Nat) : Int)) = false] (by kernel_rfl) ⟨g17_0, (f21_varint_Size_ok n (l.getD i.toNat 0) r17_1 cr17_1), b17_e0, trivial⟩ ?_
        obtain ⟨g27_0, h⟩ := ifS h
        refine At.step hm ht ⟨[], [], [], [0, 1, 5, 6], [4]⟩ 6 ⟨[(0, .one (.c (.d (.sl (.int .u8) b)))), (1, .one (.c (.d (.sl (.int .u64) l)))), (5, .one (.c (.own 0 (.int .u8) (want ++ r8_1)))), (6, .one (.c (.d (.int .i64 i))))], [(0, some ⟨5, 0⟩)], [], 1⟩ [want.length + r8_1.length ≤ maxLen ∧ (want.length + r8_1.length) * 1 ≤ 140737488355328] (by kernel_rfl) ⟨g27_0, trivial⟩ ?_
        refine At.step hm ht ⟨[], [], [], [0, 1, 5, 6], [0]⟩ 5 ⟨[(0, .one (.c (.d (.sl (.int .u8) b)))), (1, .one (.c (.d (.sl (.int .u64) l)))), (5, .one (.c (.own 0 (.int .u8) (want ++ r8_1)))), (6, .one (.c (.d (.int .i64 (IntKind.wrap .i64 (i + 1))))))], [(0, some ⟨5, 0⟩)], [], 1⟩ [] (by kernel_rfl) trivial ?_
        exact ih b l (want ++ r8_1) (IntKind.wrap .i64 (i + 1)) w h o hk
    · refine At.step hm ht ⟨[], [false], [], [0, 1, 5], [0]⟩ 11 ⟨[(0, .one (.c (.d (.sl (.int .u8) b)))), (1, .one (.c (.d (.sl (.int .u64) l)))), (5, .one (.c (.own 0 (.int .u8) want)))], [(0, some ⟨5, 0⟩)], [], 1⟩ [(decide ((i : Int) < ((l.length : Nat) : Int))) = false] (by kernel_rfl) ⟨b7_e0, trivial⟩ ?_
      have h := Option.some.inj h
      subst h
      exact hk
def f4_broughamlaw43_VarintWrites (n : Nat) (b : List Int) (l : List Int) : Option (Bool) :=
  if (decide ((((b.length : Nat) : Int) : Int) > 1000)) = true then
    some true
  else
    if (decide ((((l.length : Nat) : Int) : Int) > 300)) = true then
      some true
    else
      if ([] : List Int).length + b.length ≤ maxLen ∧ (([] : List Int).length + b.length) * 1 ≤ 140737488355328 then
      (f4_broughamlaw43_VarintWrites_L5 n b l ([] ++ b) 0).bind fun w29 =>
      match w29 with
      | .inl e30 =>
        some e30
      | .inr e31 =>
        (f22_varint_Put n e31.1 e31.2.1).bind fun r32_0 =>
        if ((strOfNums r32_0).toList == (strOfNums e31.2.2).toList) = true then
          (f23_broughamlaw43_alive n).bind fun r32_1 =>
          some r32_1
        else
          some false
      else none
theorem f4_broughamlaw43_VarintWrites_ok (n : Nat) (b : List Int) (l : List Int) (r : Bool) (h : f4_broughamlaw43_VarintWrites n b l = some r) : FnOK Go.Proofs.Try.prog 4 (f4_broughamlaw43_VarintWrites_in b l) (f4_broughamlaw43_VarintWrites_out r) := by
  unfold f4_broughamlaw43_VarintWrites at h
  refine At.fn (r := 0) Go.Proofs.Try.func4 rfl (by kernel_rfl) rfl rfl (by kernel_rfl) ?_
  show At Go.Proofs.Try.prog Go.Proofs.Try.f4 0 0 ⟨[(0, .one (.c (.d (.sl (.int .u8) b)))), (1, .one (.c (.d (.sl (.int .u64) l))))], [], [], 0⟩ _
  refine At.step hm ht ⟨[], [], [], [0, 1], []⟩ 1 ⟨[(0, .one (.c (.d (.sl (.int .u8) b)))), (1, .one (.c (.d (.sl (.int .u64) l))))], [], [], 0⟩ [] (by kernel_rfl) trivial ?_
  rcases iteS h with ⟨b2_3, h⟩ | ⟨b2_3, h⟩
  · refine At.step hm ht ⟨[(3, .b true)], [true], [], [], []⟩ 2 ⟨[], [], [], 0⟩ [(decide ((((b.length : Nat) : Int) : Int) > 1000)) = true, true = true] (by kernel_rfl) ⟨b2_3, rfl, trivial⟩ ?_
    have h := Option.some.inj h
    subst h
    exact At.fin hm ht ⟨[], [], [], [4], []⟩ [] (by kernel_rfl) trivial
  · rcases iteS h with ⟨b2_e0, h⟩ | ⟨b2_e0, h⟩
    · refine At.step hm ht ⟨[(3, .b false)], [true], [], [], []⟩ 2 ⟨[], [], [], 0⟩ [(decide ((((b.length : Nat) : Int) : Int) > 1000)) = false, (decide ((((l.length : Nat) : Int) : Int) > 300)) = true] (by kernel_rfl) ⟨b2_3, b2_e0, trivial⟩ ?_
      have h := Option.some.inj h
      subst h
      exact At.fin hm ht ⟨[], [], [], [4], []⟩ [] (by kernel_rfl) trivial
    · refine At.step hm ht ⟨[(3, .b false)], [false], [], [0, 1], []⟩ 3 ⟨[(0, .one (.c (.d (.sl (.int .u8) b)))), (1, .one (.c (.d (.sl (.int .u64) l))))], [], [], 0⟩ [(decide ((((b.length : Nat) : Int) : Int) > 1000)) = false, (decide ((((l.length : Nat) : Int) : Int) > 300)) = false] (by kernel_rfl) ⟨b2_3, b2_e0, trivial⟩ ?_
      obtain ⟨g5_0, h⟩ := ifS h
      refine At.step hm ht ⟨[], [], [], [0, 1, 5], [2]⟩ 4 ⟨[(0, .one (.c (.d (.sl (.int .u8) b)))), (1, .one (.c (.d (.sl (.int .u64) l)))), (5, .one (.c (.own 0 (.int .u8) ([] ++ b))))], [(0, some ⟨5, 0⟩)], [], 1⟩ [([] : List Int).length + b.length ≤ maxLen ∧ (([] : List Int).length + b.length) * 1 ≤ 140737488355328] (by kernel_rfl) ⟨g5_0, trivial⟩ ?_
      refine At.step hm ht ⟨[], [], [], [0, 1, 5, 6], [0]⟩ 5 ⟨[(0, .one (.c (.d (.sl (.int .u8) b)))), (1, .one (.c (.d (.sl (.int .u64) l)))), (5, .one (.c (.own 0 (.int .u8) ([] ++ b)))), (6, .one (.c (.d (.int .i64 0))))], [(0, some ⟨5, 0⟩)], [], 1⟩ [] (by kernel_rfl) trivial ?_
      obtain ⟨w29, cw29, h⟩ := bindS h
      refine f4_broughamlaw43_VarintWrites_L5_ok n b l ([] ++ b) 0 w29 cw29 _ ?_
      rcases w29 with e30 | e31
      · have h := Option.some.inj h
        subst h
        rfl
      · show At Go.Proofs.Try.prog Go.Proofs.Try.f4 0 11 ⟨[(0, .one (.c (.d (.sl (.int .u8) e31.1)))), (1, .one (.c (.d (.sl (.int .u64) e31.2.1)))), (5, .one (.c (.own 0 (.int .u8) e31.2.2)))], [(0, some ⟨5, 0⟩)], [], 1⟩ _
        obtain ⟨r32_0, cr32_0, h⟩ := bindS h
        rcases iteS h with ⟨b32_7, h⟩ | ⟨b32_7, h⟩
        · obtain ⟨r32_1, cr32_1, h⟩ := bindS h
          have h := Option.some.inj h
          subst h
          exact At.fin hm ht ⟨[(2, .call [] [] (f22_varint_Put_out r32_0)), (7, .b true), (8, .call [] [] (f23_broughamlaw43_alive_out r32_1))], [], [], [4], []⟩ [FnOK Go.Proofs.Try.prog 22 (f22_varint_Put_in e31.1 e31.2.1) (f22_varint_Put_out r32_0), ((strOfNums r32_0).toList == (strOfNums e31.2.2).toList) = true, FnOK Go.Proofs.Try.prog 23 (f23_broughamlaw43_alive_in) (f23_broughamlaw43_alive_out r32_1)] (by kernel_rfl) ⟨(f22_varint_Put_ok n e31.1 e31.2.1 r32_0 cr32_0), b32_7, (f23_broughamlaw43_alive_ok n r32_1 cr32_1), trivial⟩
        · have h := Option.some.inj h
          subst h
          exact At.fin hm ht ⟨[(2, .call [] [] (f22_varint_Put_out r32_0)), (7, .b false)], [], [], [4], []⟩ [FnOK Go.Proofs.Try.prog 22 (f22_varint_Put_in e31.1 e31.2.1) (f22_varint_Put_out r32_0), ((strOfNums r32_0).toList == (strOfNums e31.2.2).toList) = false] (by kernel_rfl) ⟨(f22_varint_Put_ok n e31.1 e31.2.1 r32_0 cr32_0), b32_7, trivial⟩
/-! brougham/broughamref43.Get -/
def f25_broughamref43_Get_in (b : List Int) : Inn := ⟨[.c (.d (.sl (.int .u8) b))], [], [], 0⟩
def f25_broughamref43_Get_out (r : Int × Int) : Out := ⟨.tup [.c (.d (.int .u64 r.1)), .c (.d (.int .i64 r.2))], [], [], 0⟩
def f25_broughamref43_Get_L3 : Nat → (List Int) → Int → Int → Int → Option ((Int × Int) ⊕ (Unit))
  | 0, _, _, _, _ => none
  | n + 1, b, n_, unit, i =>
    if (decide ((i : Int) < ((b.length : Nat) : Int))) = true then
      if (decide ((i : Int) < 10)) = true then
        if (0 : Int) ≤ i ∧ i < (((b).length : Nat) : Int) then
        if (0 : Int) ≤ i ∧ i < (((b).length : Nat) : Int) then
        if (decide (((b.getD i.toNat 0) : Int) < 128)) = true then
          (f20_broughamref43_Put n (IntKind.wrap .u64 (n_ + (IntKind.wrap .u64 ((IntKind.wrap .u64 (Int.tmod (b.getD i.toNat 0) 128)) * unit))))).bind fun r97_0 =>
          if cutOk b.length none (some (IntKind.wrap .i64 (i + 1))) none then
          if (!((strOfNums r97_0).toList == (strOfNums (b.take (IntKind.wrap .i64 (i + 1)).toNat)).toList)) = true then
            some (.inl (0, 0))
          else
            some (.inl ((IntKind.wrap .u64 (n_ + (IntKind.wrap .u64 ((IntKind.wrap .u64 (Int.tmod (b.getD i.toNat 0) 128)) * unit)))), (IntKind.wrap .i64 (i + 1))))
          else none
        else
          f25_broughamref43_Get_L3 n b (IntKind.wrap .u64 (n_ + (IntKind.wrap .u64 ((IntKind.wrap .u64 (Int.tmod (b.getD i.toNat 0) 128)) * unit)))) (IntKind.wrap .u64 (unit * 128)) (IntKind.wrap .i64 (i + 1))
        else none
        else none
      else
        some (.inr ())
    else
      some (.inr ())
def f25_broughamref43_Get_L3_k (w : (Int × Int) ⊕ (Unit)) (o : Out) : Prop := match w with
  | .inl e => o = f25_broughamref43_Get_out e
  | .inr e => At Go.Proofs.Try.prog Go.Proofs.Try.f25 0 11 ⟨[], [], [], 0⟩ o
theorem f25_broughamref43_Get_L3_ok (n : Nat) : ∀ (b : List Int) (n_ : Int) (unit : Int) (i : Int) (w : (Int × Int) ⊕ (Unit)) (h : f25_broughamref43_Get_L3 n b n_ unit i = some w) (o : Out) (hk : f25_broughamref43_Get_L3_k w o), At Go.Proofs.Try.prog Go.Proofs.Try.f25 0 3 ⟨[(0, .one (.c (.d (.sl (.int .u8) b)))), (4, .one (.c (.d (.int .u64 n_)))), (5, .one (.c (.d (.int .u64 unit)))), (6, .one (.c (.d (.int .i64 i))))], [], [], 0⟩ o := by
  induction n with
  | zero => intro b n_ unit i w h; rw [f25_broughamref43_Get_L3] at h; cases h
  | succ n ih =>
    intro b n_ unit i w h o hk
    rw [f25_broughamref43_Get_L3] at h
    rcases iteS h with ⟨b93_4, h⟩ | ⟨b93_4, h⟩
    · rcases iteS h with ⟨b93_e0, h⟩ | ⟨b93_e0, h⟩
      · refine At.step hm ht ⟨[(4, .b true)], [true], [], [0, 4, 5, 6], []⟩ 5 ⟨[(0, .one (.c (.d (.sl (.int .u8) b)))), (4, .one (.c (.d (.int .u64 n_)))), (5, .one (.c (.d (.int .u64 unit)))), (6, .one (.c (.d (.int .i64 i))))], [], [], 0⟩ [(decide ((i : Int) < ((b.length : Nat) : Int))) = true, (decide ((i : Int) < 10)) = true] (by kernel_rfl) ⟨b93_4, b93_e0, trivial⟩ ?_
        obtain ⟨g94_0, h⟩ := ifS h
        refine At.step hm ht ⟨[], [], [], [0, 4, 5, 6], []⟩ 6 ⟨[(0, .one (.c (.d (.sl (.int .u8) b)))), (4, .one (.c (.d (.int .u64 (IntKind.wrap .u64 (n_ + (IntKind.wrap .u64 ((IntKind.wrap .u64 (Int.tmod (b.getD i.toNat 0) 128)) * unit)))))))), (5, .one (.c (.d (.int .u64 unit)))), (6, .one (.c (.d (.int .i64 i))))], [], [], 0⟩ [(0 : Int) ≤ i ∧ i < (((b).length : Nat) : Int), (128 : Int) ≠ 0] (by kernel_rfl) ⟨g94_0, (by decide), trivial⟩ ?_
        refine At.step hm ht ⟨[], [], [], [0, 4, 5, 6], []⟩ 7 ⟨[(0, .one (.c (.d (.sl (.int .u8) b)))), (4, .one (.c (.d (.int .u64 (IntKind.wrap .u64 (n_ + (IntKind.wrap .u64 ((IntKind.wrap .u64 (Int.tmod (b.getD i.toNat 0) 128)) * unit)))))))), (5, .one (.c (.d (.int .u64 (IntKind.wrap .u64 (unit * 128)))))), (6, .one (.c (.d (.int .i64 i))))], [], [], 0⟩ [] (by kernel_rfl) trivial ?_
        obtain ⟨g96_0, h⟩ := ifS h
        rcases iteS h with ⟨b96_e0, h⟩ | ⟨b96_e0, h⟩
        · refine At.step hm ht ⟨[], [true], [], [0, 4, 6], []⟩ 8 ⟨[(0, .one (.c (.d (.sl (.int .u8) b)))), (4, .one (.c (.d (.int .u64 (IntKind.wrap .u64 (n_ + (IntKind.wrap .u64 ((IntKind.wrap .u64 (Int.tmod (b.getD i.toNat 0) 128)) * unit)))))))), (6, .one (.c (.d (.int .i64 i))))], [], [], 0⟩ [(0 : Int) ≤ i ∧ i < (((b).length : Nat) : Int), (decide (((b.getD i.toNat 0) : Int) < 128)) = true] (by kernel_rfl) ⟨g96_0, b96_e0, trivial⟩ ?_
          obtain ⟨r97_0, cr97_0, h⟩ := bindS h
          obtain ⟨g97_1, h⟩ := ifS h
          rcases iteS h with ⟨b97_e0, h⟩ | ⟨b97_e0, h⟩
          · refine At.step hm ht ⟨[(1, .call [] [] (f20_broughamref43_Put_out r97_0))], [true], [], [], []⟩ 9 ⟨[], [], [], 0⟩ [FnOK Go.Proofs.Try.prog 20 (f20_broughamref43_Put_in (IntKind.wrap .u64 (n_ + (IntKind.wrap .u64 ((IntKind.wrap .u64 (Int.tmod (b.getD i.toNat 0) 128)) * unit))))) (f20_broughamref43_Put_out r97_0), cutOk b.length none (some (IntKind.wrap .i64 (i + 1))) none, (!((strOfNums r97_0).toList == (strOfNums (b.take (IntKind.wrap .i64 (i + 1)).toNat)).toList)) = true] (by kernel_rfl) ⟨(f20_broughamref43_Put_ok n (IntKind.wrap .u64 (n_ + (IntKind.wrap .u64 ((IntKind.wrap .u64 (Int.tmod (b.getD i.toNat 0) 128)) * unit)))) r97_0 cr97_0), g97_1, b97_e0, trivial⟩ ?_
            have h := Option.some.inj h
            subst h
            have hk : o = f25_broughamref43_Get_out (0, 0) := hk
            subst hk
            exact At.fin hm ht ⟨[], [], [], [2, 3], []⟩ [] (by kernel_rfl) trivial
          · refine At.step hm ht ⟨[(1, .call [] [] (f20_broughamref43_Put_out r97_0))], [false], [], [4, 6], []⟩ 10 ⟨[(4, .one (.c (.d (.int .u64 (IntKind.wrap .u64 (n_ + (IntKind.wrap .u64 ((IntKind.wrap .u64 (Int.tmod (b.getD i.toNat 0) 128)) * unit)))))))), (6, .one (.c (.d (.int .i64 i))))], [], [], 0⟩ [FnOK Go.Proofs.Try.prog 20 (f20_broughamref43_Put_in (IntKind.wrap .u64 (n_ + (IntKind.wrap .u64 ((IntKind.wrap .u64 (Int.tmod (b.getD i.toNat 0) 128)) * unit))))) (f20_broughamref43_Put_out r97_0), cutOk b.length none (some (IntKind.wrap .i64 (i + 1))) none, (!((strOfNums r97_0).toList == (strOfNums (b.take (IntKind.wrap .i64 (i + 1)).toNat)).toList)) = false] (by kernel_rfl) ⟨(f20_broughamref43_Put_ok n (IntKind.wrap .u64 (n_ + (IntKind.wrap .u64 ((IntKind.wrap .u64 (Int.tmod (b.getD i.toNat 0) 128)) * unit)))) r97_0 cr97_0), g97_1, b97_e0, trivial⟩ ?_
            have h := Option.some.inj h
            subst h
            have hk : o = f25_broughamref43_Get_out ((IntKind.wrap .u64 (n_ + (IntKind.wrap .u64 ((IntKind.wrap .u64 (Int.tmod (b.getD i.toNat 0) 128)) * unit)))), (IntKind.wrap .i64 (i + 1))) := hk
            subst hk
            exact At.fin hm ht ⟨[], [], [], [2, 3], []⟩ [] (by kernel_rfl) trivial
        · refine At.step hm ht ⟨[], [false], [], [0, 4, 5, 6], []⟩ 4 ⟨[(0, .one (.c (.d (.sl (.int .u8) b)))), (4, .one (.c (.d (.int .u64 (IntKind.wrap .u64 (n_ + (IntKind.wrap .u64 ((IntKind.wrap .u64 (Int.tmod (b.getD i.toNat 0) 128)) * unit)))))))), (5, .one (.c (.d (.int .u64 (IntKind.wrap .u64 (unit * 128)))))), (6, .one (.c (.d (.int .i64 i))))], [], [], 0⟩ [(0 : Int) ≤ i ∧ i < (((b).length : Nat) : Int), (decide (((b.getD i.toNat 0) : Int) < 128)) = false] (by kernel_rfl) ⟨g96_0, b96_e0, trivial⟩ ?_
          refine At.step hm ht ⟨[], [], [], [0, 4, 5, 6], []⟩ 3 ⟨[(0, .one (.c (.d (.sl (.int .u8) b)))), (4, .one (.c (.d (.int .u64 (IntKind.wrap .u64 (n_ + (IntKind.wrap .u64 ((IntKind.wrap .u64 (Int.tmod (b.getD i.toNat 0) 128)) * unit)))))))), (5, .one (.c (.d (.int .u64 (IntKind.wrap .u64 (unit * 128)))))), (6, .one (.c (.d (.int .i64 (IntKind.wrap .i64 (i + 1))))))], [], [], 0⟩ [] (by kernel_rfl) trivial ?_
          exact ih b (IntKind.wrap .u64 (n_ + (IntKind.wrap .u64 ((IntKind.wrap .u64 (Int.tmod (b.getD i.toNat 0) 128)) * unit)))) (IntKind.wrap .u64 (unit * 128)) (IntKind.wrap .i64 (i + 1)) w h o hk
      · refine At.step hm ht ⟨[(4, .b true)], [false], [], [], []⟩ 11 ⟨[], [], [], 0⟩ [(decide ((i : Int) < ((b.length : Nat) : Int))) = true, (decide ((i : Int) < 10)) = false] (by kernel_rfl) ⟨b93_4, b93_e0, trivial⟩ ?_
        have h := Option.some.inj h
        subst h
        exact hk
    · refine At.step hm ht ⟨[(4, .b false)], [false], [], [], []⟩ 11 ⟨[], [], [], 0⟩ [(decide ((i : Int) < ((b.length : Nat) : Int))) = false, false = false] (by kernel_rfl) ⟨b93_4, rfl, trivial⟩ ?_
      have h := Option.some.inj h
      subst h
      exact hk
def f25_broughamref43_Get (n : Nat) (b : List Int) : Option (Int × Int) :=
  (f25_broughamref43_Get_L3 n b 0 1 0).bind fun w101 =>
  match w101 with
  | .inl e102 =>
    some (e102.1, e102.2)
  | .inr e103 =>
    some (0, 0)
theorem f25_broughamref43_Get_ok (n : Nat) (b : List Int) (r : Int × Int) (h : f25_broughamref43_Get n b = some r) : FnOK Go.Proofs.Try.prog 25 (f25_broughamref43_Get_in b) (f25_broughamref43_Get_out r) := by
  unfold f25_broughamref43_Get at h
  refine At.fn (r := 0) Go.Proofs.Try.func25 rfl (by kernel_rfl) rfl rfl (by kernel_rfl) ?_
  show At Go.Proofs.Try.prog Go.Proofs.Try.f25 0 0 ⟨[(0, .one (.c (.d (.sl (.int .u8) b))))], [], [], 0⟩ _
  refine At.step hm ht ⟨[], [], [], [0], []⟩ 1 ⟨[(0, .one (.c (.d (.sl (.int .u8) b))))], [], [], 0⟩ [] (by kernel_rfl) trivial ?_
  refine At.step hm ht ⟨[], [], [], [0, 4, 5], []⟩ 2 ⟨[(0, .one (.c (.d (.sl (.int .u8) b)))), (4, .one (.c (.d (.int .u64 0)))), (5, .one (.c (.d (.int .u64 1))))], [], [], 0⟩ [] (by kernel_rfl) trivial ?_
  refine At.step hm ht ⟨[], [], [], [0, 4, 5, 6], []⟩ 3 ⟨[(0, .one (.c (.d (.sl (.int .u8) b)))), (4, .one (.c (.d (.int .u64 0)))), (5, .one (.c (.d (.int .u64 1)))), (6, .one (.c (.d (.int .i64 0))))], [], [], 0⟩ [] (by kernel_rfl) trivial ?_
  obtain ⟨w101, cw101, h⟩ := bindS h
  refine f25_broughamref43_Get_L3_ok n b 0 1 0 w101 cw101 _ ?_
  rcases w101 with e102 | e103
  · have h := Option.some.inj h
    subst h
    rfl
  · show At Go.Proofs.Try.prog Go.Proofs.Try.f25 0 11 ⟨[], [], [], 0⟩ _
    have h := Option.some.inj h
    subst h
    exact At.fin hm ht ⟨[], [], [], [2, 3], []⟩ [] (by kernel_rfl) trivial
/-! brougham/varint.All -/
def f26_varint_All_in (b : List Int) : Inn := ⟨[.c (.d (.sl (.int .u8) b))], [], [], 0⟩
def f26_varint_All_out (r : List Int × Bool) : Out := ⟨.tup [.c (.own 0 (.int .u64) r.1), .c (.d (.bool r.2))], [(0, ⟨37, 0⟩)], [], 1⟩
def f26_varint_All_L2 : Nat → (List Int) → (List Int) → Option ((List Int × Bool) ⊕ (List Int))
  | 0, _, _ => none
  | n + 1, b, out =>
    if (decide ((((b.length : Nat) : Int) : Int) > 0)) = true then
      (f24_varint_Get n b).bind fun r129_0 =>
      if ((r129_0.2 : Int) == 0) = true then
        some (.inl ([], false))
      else
        if out.length + [r129_0.1].length ≤ maxLen ∧ (out.length + [r129_0.1].length) * 8 ≤ 140737488355328 then
        if cutOk b.length (some r129_0.2) none none then
        f26_varint_All_L2 n ((b.take b.length).drop r129_0.2.toNat) (out ++ [r129_0.1])
        else none
        else none
    else
      some (.inr out)
def f26_varint_All_L2_k (w : (List Int × Bool) ⊕ (List Int)) (o : Out) : Prop := match w with
  | .inl e => o = f26_varint_All_out e
  | .inr e => At Go.Proofs.Try.prog Go.Proofs.Try.f26 0 8 ⟨[(4, .one (.c (.own 0 (.int .u64) e)))], [(0, some ⟨37, 0⟩)], [], 1⟩ o
theorem f26_varint_All_L2_ok (n : Nat) : ∀ (b : List Int) (out : List Int) (w : (List Int × Bool) ⊕ (List Int)) (h : f26_varint_All_L2 n b out = some w) (o : Out) (hk : f26_varint_All_L2_k w o), At Go.Proofs.Try.prog Go.Proofs.Try.f26 0 2 ⟨[(0, .one (.c (.d (.sl (.int .u8) b)))), (4, .one (.c (.own 0 (.int .u64) out)))], [(0, some ⟨37, 0⟩)], [], 1⟩ o := by
  induction n with
  | zero => intro b out w h; rw [f26_varint_All_L2] at h; cases h
  | succ n ih =>
    intro b out w h o hk
    rw [f26_varint_All_L2] at h
    rcases iteS h with ⟨b128_e0, h⟩ | ⟨b128_e0, h⟩
    · refine At.step hm ht ⟨[], [true], [], [0, 4], [0]⟩ 3 ⟨[(0, .one (.c (.d (.sl (.int .u8) b)))), (4, .one (.c (.own 0 (.int .u64) out)))], [(0, some ⟨37, 0⟩)], [], 1⟩ [(decide ((((b.length : Nat) : Int) : Int) > 0)) = true] (by kernel_rfl) ⟨b128_e0, trivial⟩ ?_
      obtain ⟨r129_0, cr129_0, h⟩ := bindS h
      refine At.step hm ht ⟨[(1, .call [] [] (f24_varint_Get_out r129_0))], [], [], [0, 4, 5, 6], [0]⟩ 4 ⟨[(0, .one (.c (.d (.sl (.int .u8) b)))), (4, .one (.c (.own 0 (.int .u64) out))), (5, .one (.c (.d (.int .u64 r129_0.1)))), (6, .one (.c (.d (.int .i64 r129_0.2))))], [(0, some ⟨37, 0⟩)], [], 1⟩ [FnOK Go.Proofs.Try.prog 24 (f24_varint_Get_in b) (f24_varint_Get_out r129_0)] (by kernel_rfl) ⟨(f24_varint_Get_ok n b r129_0 cr129_0), trivial⟩ ?_
      rcases iteS h with ⟨b130_e0, h⟩ | ⟨b130_e0, h⟩
      · refine At.step hm ht ⟨[], [true], [], [], []⟩ 5 ⟨[], [], [], 0⟩ [((r129_0.2 : Int) == 0) = true] (by kernel_rfl) ⟨b130_e0, trivial⟩ ?_
        have h := Option.some.inj h
        subst h
        have hk : o = f26_varint_All_out ([], false) := hk
        subst hk
        exact At.fin hm ht ⟨[], [], [.nil false 2 0 (.int .u64) (some 37)], [2, 3], [2]⟩ [] (by kernel_rfl) trivial
      · refine At.step hm ht ⟨[], [false], [], [0, 4, 5, 6], [0]⟩ 6 ⟨[(0, .one (.c (.d (.sl (.int .u8) b)))), (4, .one (.c (.own 0 (.int .u64) out))), (5, .one (.c (.d (.int .u64 r129_0.1)))), (6, .one (.c (.d (.int .i64 r129_0.2))))], [(0, some ⟨37, 0⟩)], [], 1⟩ [((r129_0.2 : Int) == 0) = false] (by kernel_rfl) ⟨b130_e0, trivial⟩ ?_
        obtain ⟨g132_0, h⟩ := ifS h
        refine At.step hm ht ⟨[], [], [], [0, 4, 6], [4]⟩ 7 ⟨[(0, .one (.c (.d (.sl (.int .u8) b)))), (4, .one (.c (.own 0 (.int .u64) (out ++ [r129_0.1])))), (6, .one (.c (.d (.int .i64 r129_0.2))))], [(0, some ⟨37, 0⟩)], [], 1⟩ [out.length + [r129_0.1].length ≤ maxLen ∧ (out.length + [r129_0.1].length) * 8 ≤ 140737488355328] (by kernel_rfl) ⟨g132_0, trivial⟩ ?_
        obtain ⟨g133_0, h⟩ := ifS h
        refine At.step hm ht ⟨[], [], [], [0, 4], [0]⟩ 2 ⟨[(0, .one (.c (.d (.sl (.int .u8) ((b.take b.length).drop r129_0.2.toNat))))), (4, .one (.c (.own 0 (.int .u64) (out ++ [r129_0.1]))))], [(0, some ⟨37, 0⟩)], [], 1⟩ [cutOk b.length (some r129_0.2) none none] (by kernel_rfl) ⟨g133_0, trivial⟩ ?_
        exact ih ((b.take b.length).drop r129_0.2.toNat) (out ++ [r129_0.1]) w h o hk
    · refine At.step hm ht ⟨[], [false], [], [4], [0]⟩ 8 ⟨[(4, .one (.c (.own 0 (.int .u64) out)))], [(0, some ⟨37, 0⟩)], [], 1⟩ [(decide ((((b.length : Nat) : Int) : Int) > 0)) = false] (by kernel_rfl) ⟨b128_e0, trivial⟩ ?_
      have h := Option.some.inj h
      subst h
      exact hk
def f26_varint_All (n : Nat) (b : List Int) : Option (List Int × Bool) :=
  (f26_varint_All_L2 n b []).bind fun w134 =>
  match w134 with
  | .inl e135 =>
    some (e135.1, e135.2)
  | .inr e136 =>
    some (e136, true)
theorem f26_varint_All_ok (n : Nat) (b : List Int) (r : List Int × Bool) (h : f26_varint_All n b = some r) : FnOK Go.Proofs.Try.prog 26 (f26_varint_All_in b) (f26_varint_All_out r) := by
  unfold f26_varint_All at h
  refine At.fn (r := 0) Go.Proofs.Try.func26 rfl (by kernel_rfl) rfl rfl (by kernel_rfl) ?_
  show At Go.Proofs.Try.prog Go.Proofs.Try.f26 0 0 ⟨[(0, .one (.c (.d (.sl (.int .u8) b))))], [], [], 0⟩ _
  refine At.step hm ht ⟨[], [], [], [0], []⟩ 1 ⟨[(0, .one (.c (.d (.sl (.int .u8) b))))], [], [], 0⟩ [] (by kernel_rfl) trivial ?_
  refine At.step hm ht ⟨[], [], [.nil false 4 0 (.int .u64) (some 37)], [0, 4], [1]⟩ 2 ⟨[(0, .one (.c (.d (.sl (.int .u8) b)))), (4, .one (.c (.own 0 (.int .u64) [])))], [(0, some ⟨37, 0⟩)], [], 1⟩ [] (by kernel_rfl) trivial ?_
  obtain ⟨w134, cw134, h⟩ := bindS h
  refine f26_varint_All_L2_ok n b [] w134 cw134 _ ?_
  rcases w134 with e135 | e136
  · have h := Option.some.inj h
    subst h
    rfl
  · show At Go.Proofs.Try.prog Go.Proofs.Try.f26 0 8 ⟨[(4, .one (.c (.own 0 (.int .u64) e136)))], [(0, some ⟨37, 0⟩)], [], 1⟩ _
    have h := Option.some.inj h
    subst h
    exact At.fin hm ht ⟨[], [], [], [2, 3], [0]⟩ [] (by kernel_rfl) trivial
/-! brougham/broughamref43.All -/
def f27_broughamref43_All_in (b : List Int) : Inn := ⟨[.c (.d (.sl (.int .u8) b))], [], [], 0⟩
def f27_broughamref43_All_out (r : List Int × Bool) : Out := ⟨.tup [.c (.own 0 (.int .u64) r.1), .c (.d (.bool r.2))], [(0, ⟨37, 0⟩)], [], 1⟩
def f27_broughamref43_All_L2 : Nat → (List Int) → (List Int) → Option ((List Int × Bool) ⊕ (List Int))
  | 0, _, _ => none
  | n + 1, b, out =>
    if (decide ((((b.length : Nat) : Int) : Int) > 0)) = true then
      (f25_broughamref43_Get n b).bind fun r162_0 =>
      if ((r162_0.2 : Int) == 0) = true then
        some (.inl ([], false))
      else
        if out.length + [r162_0.1].length ≤ maxLen ∧ (out.length + [r162_0.1].length) * 8 ≤ 140737488355328 then
        if cutOk b.length (some r162_0.2) none none then
        f27_broughamref43_All_L2 n ((b.take b.length).drop r162_0.2.toNat) (out ++ [r162_0.1])
        else none
        else none
    else
      some (.inr out)
def f27_broughamref43_All_L2_k (w : (List Int × Bool) ⊕ (List Int)) (o : Out) : Prop := match w with
  | .inl e => o = f27_broughamref43_All_out e
  | .inr e => At Go.Proofs.Try.prog Go.Proofs.Try.f27 0 8 ⟨[(4, .one (.c (.own 0 (.int .u64) e)))], [(0, some ⟨37, 0⟩)], [], 1⟩ o
theorem f27_broughamref43_All_L2_ok (n : Nat) : ∀ (b : List Int) (out : List Int) (w : (List Int × Bool) ⊕ (List Int)) (h : f27_broughamref43_All_L2 n b out = some w) (o : Out) (hk : f27_broughamref43_All_L2_k w o), At Go.Proofs.Try.prog Go.Proofs.Try.f27 0 2 ⟨[(0, .one (.c (.d (.sl (.int .u8) b)))), (4, .one (.c (.own 0 (.int .u64) out)))], [(0, some ⟨37, 0⟩)], [], 1⟩ o := by
  induction n with
  | zero => intro b out w h; rw [f27_broughamref43_All_L2] at h; cases h
  | succ n ih =>
    intro b out w h o hk
    rw [f27_broughamref43_All_L2] at h
    rcases iteS h with ⟨b161_e0, h⟩ | ⟨b161_e0, h⟩
    · refine At.step hm ht ⟨[], [true], [], [0, 4], [0]⟩ 3 ⟨[(0, .one (.c (.d (.sl (.int .u8) b)))), (4, .one (.c (.own 0 (.int .u64) out)))], [(0, some ⟨37, 0⟩)], [], 1⟩ [(decide ((((b.length : Nat) : Int) : Int) > 0)) = true] (by kernel_rfl) ⟨b161_e0, trivial⟩ ?_
      obtain ⟨r162_0, cr162_0, h⟩ := bindS h
      refine At.step hm ht ⟨[(1, .call [] [] (f25_broughamref43_Get_out r162_0))], [], [], [0, 4, 5, 6], [0]⟩ 4 ⟨[(0, .one (.c (.d (.sl (.int .u8) b)))), (4, .one (.c (.own 0 (.int .u64) out))), (5, .one (.c (.d (.int .u64 r162_0.1)))), (6, .one (.c (.d (.int .i64 r162_0.2))))], [(0, some ⟨37, 0⟩)], [], 1⟩ [FnOK Go.Proofs.Try.prog 25 (f25_broughamref43_Get_in b) (f25_broughamref43_Get_out r162_0)] (by kernel_rfl) ⟨(f25_broughamref43_Get_ok n b r162_0 cr162_0), trivial⟩ ?_
      rcases iteS h with ⟨b163_e0, h⟩ | ⟨b163_e0, h⟩
      · refine At.step hm ht ⟨[], [true], [], [], []⟩ 5 ⟨[], [], [], 0⟩ [((r162_0.2 : Int) == 0) = true] (by kernel_rfl) ⟨b163_e0, trivial⟩ ?_
        have h := Option.some.inj h
        subst h
        have hk : o = f27_broughamref43_All_out ([], false) := hk
        subst hk
        exact At.fin hm ht ⟨[], [], [.nil false 2 0 (.int .u64) (some 37)], [2, 3], [2]⟩ [] (by kernel_rfl) trivial
      · refine At.step hm ht ⟨[], [false], [], [0, 4, 5, 6], [0]⟩ 6 ⟨[(0, .one (.c (.d (.sl (.int .u8) b)))), (4, .one (.c (.own 0 (.int .u64) out))), (5, .one (.c (.d (.int .u64 r162_0.1)))), (6, .one (.c (.d (.int .i64 r162_0.2))))], [(0, some ⟨37, 0⟩)], [], 1⟩ [((r162_0.2 : Int) == 0) = false] (by kernel_rfl) ⟨b163_e0, trivial⟩ ?_
        obtain ⟨g165_0, h⟩ := ifS h
        refine At.step hm ht ⟨[], [], [], [0, 4, 6], [4]⟩ 7 ⟨[(0, .one (.c (.d (.sl (.int .u8) b)))), (4, .one (.c (.own 0 (.int .u64) (out ++ [r162_0.1])))), (6, .one (.c (.d (.int .i64 r162_0.2))))], [(0, some ⟨37, 0⟩)], [], 1⟩ [out.length + [r162_0.1].length ≤ maxLen ∧ (out.length + [r162_0.1].length) * 8 ≤ 140737488355328] (by kernel_rfl) ⟨g165_0, trivial⟩ ?_
        obtain ⟨g166_0, h⟩ := ifS h
        refine At.step hm ht ⟨[], [], [], [0, 4], [0]⟩ 2 ⟨[(0, .one (.c (.d (.sl (.int .u8) ((b.take b.length).drop r162_0.2.toNat))))), (4, .one (.c (.own 0 (.int .u64) (out ++ [r162_0.1]))))], [(0, some ⟨37, 0⟩)], [], 1⟩ [cutOk b.length (some r162_0.2) none none] (by kernel_rfl) ⟨g166_0, trivial⟩ ?_
        exact ih ((b.take b.length).drop r162_0.2.toNat) (out ++ [r162_0.1]) w h o hk
    · refine At.step hm ht ⟨[], [false], [], [4], [0]⟩ 8 ⟨[(4, .one (.c (.own 0 (.int .u64) out)))], [(0, some ⟨37, 0⟩)], [], 1⟩ [(decide ((((b.length : Nat) : Int) : Int) > 0)) = false] (by kernel_rfl) ⟨b161_e0, trivial⟩ ?_
      have h := Option.some.inj h
      subst h
      exact hk
def f27_broughamref43_All (n : Nat) (b : List Int) : Option (List Int × Bool) :=
  (f27_broughamref43_All_L2 n b []).bind fun w167 =>
  match w167 with
  | .inl e168 =>
    some (e168.1, e168.2)
  | .inr e169 =>
    some (e169, true)
theorem f27_broughamref43_All_ok (n : Nat) (b : List Int) (r : List Int × Bool) (h : f27_broughamref43_All n b = some r) : FnOK Go.Proofs.Try.prog 27 (f27_broughamref43_All_in b) (f27_broughamref43_All_out r) := by
  unfold f27_broughamref43_All at h
  refine At.fn (r := 0) Go.Proofs.Try.func27 rfl (by kernel_rfl) rfl rfl (by kernel_rfl) ?_
  show At Go.Proofs.Try.prog Go.Proofs.Try.f27 0 0 ⟨[(0, .one (.c (.d (.sl (.int .u8) b))))], [], [], 0⟩ _
  refine At.step hm ht ⟨[], [], [], [0], []⟩ 1 ⟨[(0, .one (.c (.d (.sl (.int .u8) b))))], [], [], 0⟩ [] (by kernel_rfl) trivial ?_
  refine At.step hm ht ⟨[], [], [.nil false 4 0 (.int .u64) (some 37)], [0, 4], [1]⟩ 2 ⟨[(0, .one (.c (.d (.sl (.int .u8) b)))), (4, .one (.c (.own 0 (.int .u64) [])))], [(0, some ⟨37, 0⟩)], [], 1⟩ [] (by kernel_rfl) trivial ?_
  obtain ⟨w167, cw167, h⟩ := bindS h
  refine f27_broughamref43_All_L2_ok n b [] w167 cw167 _ ?_
  rcases w167 with e168 | e169
  · have h := Option.some.inj h
    subst h
    rfl
  · show At Go.Proofs.Try.prog Go.Proofs.Try.f27 0 8 ⟨[(4, .one (.c (.own 0 (.int .u64) e169)))], [(0, some ⟨37, 0⟩)], [], 1⟩ _
    have h := Option.some.inj h
    subst h
    exact At.fin hm ht ⟨[], [], [], [2, 3], [0]⟩ [] (by kernel_rfl) trivial
/-! brougham/broughamlaw43.row -/
def f28_broughamlaw43_row_in (a : List Int) (b : List Int) : Inn := ⟨[.c (.d (.sl (.int .u64) a)), .c (.d (.sl (.int .u64) b))], [], [], 0⟩
def f28_broughamlaw43_row_out (r : Bool) : Out := ⟨.one (.c (.d (.bool r))), [], [], 0⟩
def f28_broughamlaw43_row_L4 : Nat → (List Int) → (List Int) → Int → Option ((Bool) ⊕ (Unit))
  | 0, _, _, _ => none
  | n + 1, a, b, i =>
    if (decide ((i : Int) < ((a.length : Nat) : Int))) = true then
      if (0 : Int) ≤ i ∧ i < (((a).length : Nat) : Int) then
      if (0 : Int) ≤ i ∧ i < (((b).length : Nat) : Int) then
      if (((a.getD i.toNat 0) : Int) != (b.getD i.toNat 0)) = true then
        some (.inl false)
      else
        f28_broughamlaw43_row_L4 n a b (IntKind.wrap .i64 (i + 1))
      else none
      else none
    else
      some (.inr ())
def f28_broughamlaw43_row_L4_k (w : (Bool) ⊕ (Unit)) (o : Out) : Prop := match w with
  | .inl e => o = f28_broughamlaw43_row_out e
  | .inr e => At Go.Proofs.Try.prog Go.Proofs.Try.f28 0 8 ⟨[], [], [], 0⟩ o
theorem f28_broughamlaw43_row_L4_ok (n : Nat) : ∀ (a : List Int) (b : List Int) (i : Int) (w : (Bool) ⊕ (Unit)) (h : f28_broughamlaw43_row_L4 n a b i = some w) (o : Out) (hk : f28_broughamlaw43_row_L4_k w o), At Go.Proofs.Try.prog Go.Proofs.Try.f28 0 4 ⟨[(0, .one (.c (.d (.sl (.int .u64) a)))), (1, .one (.c (.d (.sl (.int .u64) b)))), (5, .one (.c (.d (.int .i64 i))))], [], [], 0⟩ o := by
  induction n with
  | zero => intro a b i w h; rw [f28_broughamlaw43_row_L4] at h; cases h
  | succ n ih =>
    intro a b i w h o hk
    rw [f28_broughamlaw43_row_L4] at h
    rcases iteS h with ⟨b176_e0, h⟩ | ⟨b176_e0, h⟩
    · refine At.step hm ht ⟨[], [true], [], [0, 1, 5], []⟩ 6 ⟨[(0, .one (.c (.d (.sl (.int .u64) a)))), (1, .one (.c (.d (.sl (.int .u64) b)))), (5, .one (.c (.d (.int .i64 i))))], [], [], 0⟩ [(decide ((i : Int) < ((a.length : Nat) : Int))) = true] (by kernel_rfl) ⟨b176_e0, trivial⟩ ?_
      obtain ⟨g177_0, h⟩ := ifS h
      obtain ⟨g177_1, h⟩ := ifS h
      rcases iteS h with ⟨b177_e0, h⟩ | ⟨b177_e0, h⟩
      · refine At.step hm ht ⟨[], [true], [], [], []⟩ 7 ⟨[], [], [], 0⟩ [(0 : Int) ≤ i ∧ i < (((a).length : Nat) : Int), (0 : Int) ≤ i ∧ i < (((b).length : Nat) : Int), (((a.getD i.toNat 0) : Int) != (b.getD i.toNat 0)) = true] (by kernel_rfl) ⟨g177_0, g177_1, b177_e0, trivial⟩ ?_
        have h := Option.some.inj h
        subst h
        have hk : o = f28_broughamlaw43_row_out false := hk
        subst hk
        exact At.fin hm ht ⟨[], [], [], [4], []⟩ [] (by kernel_rfl) trivial
      · refine At.step hm ht ⟨[], [false], [], [0, 1, 5], []⟩ 5 ⟨[(0, .one (.c (.d (.sl (.int .u64) a)))), (1, .one (.c (.d (.sl (.int .u64) b)))), (5, .one (.c (.d (.int .i64 i))))], [], [], 0⟩ [(0 : Int) ≤ i ∧ i < (((a).length : Nat) : Int), (0 : Int) ≤ i ∧ i < (((b).length : Nat) : Int), (((a.getD i.toNat 0) : Int) != (b.getD i.toNat 0)) = false] (by kernel_rfl) ⟨g177_0, g177_1, b177_e0, trivial⟩ ?_
        refine At.step hm ht ⟨[], [], [], [0, 1, 5], []⟩ 4 ⟨[(0, .one (.c (.d (.sl (.int .u64) a)))), (1, .one (.c (.d (.sl (.int .u64) b)))), (5, .one (.c (.d (.int .i64 (IntKind.wrap .i64 (i + 1))))))], [], [], 0⟩ [] (by kernel_rfl) trivial ?_
        exact ih a b (IntKind.wrap .i64 (i + 1)) w h o hk
    · refine At.step hm ht ⟨[], [false], [], [], []⟩ 8 ⟨[], [], [], 0⟩ [(decide ((i : Int) < ((a.length : Nat) : Int))) = false] (by kernel_rfl) ⟨b176_e0, trivial⟩ ?_
      have h := Option.some.inj h
      subst h
      exact hk
def f28_broughamlaw43_row (n : Nat) (a : List Int) (b : List Int) : Option (Bool) :=
  if ((((a.length : Nat) : Int) : Int) != ((b.length : Nat) : Int)) = true then
    some false
  else
    (f28_broughamlaw43_row_L4 n a b 0).bind fun w180 =>
    match w180 with
    | .inl e181 =>
      some e181
    | .inr e182 =>
      some true
theorem f28_broughamlaw43_row_ok (n : Nat) (a : List Int) (b : List Int) (r : Bool) (h : f28_broughamlaw43_row n a b = some r) : FnOK Go.Proofs.Try.prog 28 (f28_broughamlaw43_row_in a b) (f28_broughamlaw43_row_out r) := by
  unfold f28_broughamlaw43_row at h
  refine At.fn (r := 0) Go.Proofs.Try.func28 rfl (by kernel_rfl) rfl rfl (by kernel_rfl) ?_
  show At Go.Proofs.Try.prog Go.Proofs.Try.f28 0 0 ⟨[(0, .one (.c (.d (.sl (.int .u64) a)))), (1, .one (.c (.d (.sl (.int .u64) b))))], [], [], 0⟩ _
  refine At.step hm ht ⟨[], [], [], [0, 1], []⟩ 1 ⟨[(0, .one (.c (.d (.sl (.int .u64) a)))), (1, .one (.c (.d (.sl (.int .u64) b))))], [], [], 0⟩ [] (by kernel_rfl) trivial ?_
  rcases iteS h with ⟨b173_e0, h⟩ | ⟨b173_e0, h⟩
  · refine At.step hm ht ⟨[], [true], [], [], []⟩ 2 ⟨[], [], [], 0⟩ [((((a.length : Nat) : Int) : Int) != ((b.length : Nat) : Int)) = true] (by kernel_rfl) ⟨b173_e0, trivial⟩ ?_
    have h := Option.some.inj h
    subst h
    exact At.fin hm ht ⟨[], [], [], [4], []⟩ [] (by kernel_rfl) trivial
  · refine At.step hm ht ⟨[], [false], [], [0, 1], []⟩ 3 ⟨[(0, .one (.c (.d (.sl (.int .u64) a)))), (1, .one (.c (.d (.sl (.int .u64) b))))], [], [], 0⟩ [((((a.length : Nat) : Int) : Int) != ((b.length : Nat) : Int)) = false] (by kernel_rfl) ⟨b173_e0, trivial⟩ ?_
    refine At.step hm ht ⟨[], [], [], [0, 1, 5], []⟩ 4 ⟨[(0, .one (.c (.d (.sl (.int .u64) a)))), (1, .one (.c (.d (.sl (.int .u64) b)))), (5, .one (.c (.d (.int .i64 0))))], [], [], 0⟩ [] (by kernel_rfl) trivial ?_
    obtain ⟨w180, cw180, h⟩ := bindS h
    refine f28_broughamlaw43_row_L4_ok n a b 0 w180 cw180 _ ?_
    rcases w180 with e181 | e182
    · have h := Option.some.inj h
      subst h
      rfl
    · show At Go.Proofs.Try.prog Go.Proofs.Try.f28 0 8 ⟨[], [], [], 0⟩ _
      have h := Option.some.inj h
      subst h
      exact At.fin hm ht ⟨[], [], [], [4], []⟩ [] (by kernel_rfl) trivial
/-! brougham/broughamlaw43.VarintReads -/
def f5_broughamlaw43_VarintReads_in (b : List Int) : Inn := ⟨[.c (.d (.sl (.int .u8) b))], [], [], 0⟩
def f5_broughamlaw43_VarintReads_out (r : Bool) : Out := ⟨.one (.c (.d (.bool r))), [], [], 0⟩
def f5_broughamlaw43_VarintReads (n : Nat) (b : List Int) : Option (Bool) :=
  if (decide ((((b.length : Nat) : Int) : Int) > 2000)) = true then
    some true
  else
    (f24_varint_Get n b).bind fun r88_0 =>
    (f25_broughamref43_Get n b).bind fun r89_0 =>
    (f26_varint_All n b).bind fun r105_0 =>
    (f27_broughamref43_All n b).bind fun r138_0 =>
    if ((r88_0.1 : Int) == r89_0.1) = true then
      if ((r88_0.2 : Int) == r89_0.2) = true then
        if (r105_0.2 == r138_0.2) = true then
          (f28_broughamlaw43_row n r105_0.1 r138_0.1).bind fun r171_0 =>
          if r171_0 = true then
            (f23_broughamlaw43_alive n).bind fun r171_1 =>
            some r171_1
          else
            some false
        else
          some false
      else
        some false
    else
      some false
theorem f5_broughamlaw43_VarintReads_ok (n : Nat) (b : List Int) (r : Bool) (h : f5_broughamlaw43_VarintReads n b = some r) : FnOK Go.Proofs.Try.prog 5 (f5_broughamlaw43_VarintReads_in b) (f5_broughamlaw43_VarintReads_out r) := by
  unfold f5_broughamlaw43_VarintReads at h
  refine At.fn (r := 0) Go.Proofs.Try.func5 rfl (by kernel_rfl) rfl rfl (by kernel_rfl) ?_
  show At Go.Proofs.Try.prog Go.Proofs.Try.f5 0 0 ⟨[(0, .one (.c (.d (.sl (.int .u8) b))))], [], [], 0⟩ _
  refine At.step hm ht ⟨[], [], [], [0], []⟩ 1 ⟨[(0, .one (.c (.d (.sl (.int .u8) b))))], [], [], 0⟩ [] (by kernel_rfl) trivial ?_
  rcases iteS h with ⟨b86_e0, h⟩ | ⟨b86_e0, h⟩
  · refine At.step hm ht ⟨[], [true], [], [], []⟩ 2 ⟨[], [], [], 0⟩ [(decide ((((b.length : Nat) : Int) : Int) > 2000)) = true] (by kernel_rfl) ⟨b86_e0, trivial⟩ ?_
    have h := Option.some.inj h
    subst h
    exact At.fin hm ht ⟨[], [], [], [2], []⟩ [] (by kernel_rfl) trivial
  · refine At.step hm ht ⟨[], [false], [], [0], []⟩ 3 ⟨[(0, .one (.c (.d (.sl (.int .u8) b))))], [], [], 0⟩ [(decide ((((b.length : Nat) : Int) : Int) > 2000)) = false] (by kernel_rfl) ⟨b86_e0, trivial⟩ ?_
    obtain ⟨r88_0, cr88_0, h⟩ := bindS h
    refine At.step hm ht ⟨[(1, .call [] [] (f24_varint_Get_out r88_0))], [], [], [0, 3, 4], []⟩ 4 ⟨[(0, .one (.c (.d (.sl (.int .u8) b)))), (3, .one (.c (.d (.int .u64 r88_0.1)))), (4, .one (.c (.d (.int .i64 r88_0.2))))], [], [], 0⟩ [FnOK Go.Proofs.Try.prog 24 (f24_varint_Get_in b) (f24_varint_Get_out r88_0)] (by kernel_rfl) ⟨(f24_varint_Get_ok n b r88_0 cr88_0), trivial⟩ ?_
    obtain ⟨r89_0, cr89_0, h⟩ := bindS h
    refine At.step hm ht ⟨[(1, .call [] [] (f25_broughamref43_Get_out r89_0))], [], [], [0, 3, 4, 5, 6], []⟩ 5 ⟨[(0, .one (.c (.d (.sl (.int .u8) b)))), (3, .one (.c (.d (.int .u64 r88_0.1)))), (4, .one (.c (.d (.int .i64 r88_0.2)))), (5, .one (.c (.d (.int .u64 r89_0.1)))), (6, .one (.c (.d (.int .i64 r89_0.2))))], [], [], 0⟩ [FnOK Go.Proofs.Try.prog 25 (f25_broughamref43_Get_in b) (f25_broughamref43_Get_out r89_0)] (by kernel_rfl) ⟨(f25_broughamref43_Get_ok n b r89_0 cr89_0), trivial⟩ ?_
    obtain ⟨r105_0, cr105_0, h⟩ := bindS h
    refine At.step hm ht ⟨[(1, .call [] [] (f26_varint_All_out r105_0))], [], [], [0, 3, 4, 5, 6, 7, 8], [1]⟩ 6 ⟨[(0, .one (.c (.d (.sl (.int .u8) b)))), (3, .one (.c (.d (.int .u64 r88_0.1)))), (4, .one (.c (.d (.int .i64 r88_0.2)))), (5, .one (.c (.d (.int .u64 r89_0.1)))), (6, .one (.c (.d (.int .i64 r89_0.2)))), (7, .one (.c (.own 0 (.int .u64) r105_0.1))), (8, .one (.c (.d (.bool r105_0.2))))], [(0, some ⟨37, 0⟩)], [], 1⟩ [FnOK Go.Proofs.Try.prog 26 (f26_varint_All_in b) (f26_varint_All_out r105_0)] (by kernel_rfl) ⟨(f26_varint_All_ok n b r105_0 cr105_0), trivial⟩ ?_
    obtain ⟨r138_0, cr138_0, h⟩ := bindS h
    refine At.step hm ht ⟨[(1, .call [] [] (f27_broughamref43_All_out r138_0))], [], [], [3, 4, 5, 6, 7, 8, 9, 10], [0, 2]⟩ 7 ⟨[(3, .one (.c (.d (.int .u64 r88_0.1)))), (4, .one (.c (.d (.int .i64 r88_0.2)))), (5, .one (.c (.d (.int .u64 r89_0.1)))), (6, .one (.c (.d (.int .i64 r89_0.2)))), (7, .one (.c (.own 0 (.int .u64) r105_0.1))), (8, .one (.c (.d (.bool r105_0.2)))), (9, .one (.c (.own 1 (.int .u64) r138_0.1))), (10, .one (.c (.d (.bool r138_0.2))))], [(0, some ⟨37, 0⟩), (1, some ⟨37, 0⟩)], [], 2⟩ [FnOK Go.Proofs.Try.prog 27 (f27_broughamref43_All_in b) (f27_broughamref43_All_out r138_0)] (by kernel_rfl) ⟨(f27_broughamref43_All_ok n b r138_0 cr138_0), trivial⟩ ?_
    rcases iteS h with ⟨b171_3, h⟩ | ⟨b171_3, h⟩
    · rcases iteS h with ⟨b171_8, h⟩ | ⟨b171_8, h⟩
      · rcases iteS h with ⟨b171_13, h⟩ | ⟨b171_13, h⟩
        · obtain ⟨r171_0, cr171_0, h⟩ := bindS h
          rcases iteS h with ⟨b171_18, h⟩ | ⟨b171_18, h⟩
          · obtain ⟨r171_1, cr171_1, h⟩ := bindS h
            have h := Option.some.inj h
            subst h
            exact At.fin hm ht ⟨[(3, .b true), (8, .b true), (13, .b true), (16, .call [] [] (f28_broughamlaw43_row_out r171_0)), (18, .b true), (19, .call [] [] (f23_broughamlaw43_alive_out r171_1))], [], [], [2], []⟩ [((r88_0.1 : Int) == r89_0.1) = true, ((r88_0.2 : Int) == r89_0.2) = true, (r105_0.2 == r138_0.2) = true, FnOK Go.Proofs.Try.prog 28 (f28_broughamlaw43_row_in r105_0.1 r138_0.1) (f28_broughamlaw43_row_out r171_0), r171_0 = true, FnOK Go.Proofs.Try.prog 23 (f23_broughamlaw43_alive_in) (f23_broughamlaw43_alive_out r171_1)] (by kernel_rfl) ⟨b171_3, b171_8, b171_13, (f28_broughamlaw43_row_ok n r105_0.1 r138_0.1 r171_0 cr171_0), b171_18, (f23_broughamlaw43_alive_ok n r171_1 cr171_1), trivial⟩
          · have h := Option.some.inj h
            subst h
            exact At.fin hm ht ⟨[(3, .b true), (8, .b true), (13, .b true), (16, .call [] [] (f28_broughamlaw43_row_out r171_0)), (18, .b false)], [], [], [2], []⟩ [((r88_0.1 : Int) == r89_0.1) = true, ((r88_0.2 : Int) == r89_0.2) = true, (r105_0.2 == r138_0.2) = true, FnOK Go.Proofs.Try.prog 28 (f28_broughamlaw43_row_in r105_0.1 r138_0.1) (f28_broughamlaw43_row_out r171_0), r171_0 = false] (by kernel_rfl) ⟨b171_3, b171_8, b171_13, (f28_broughamlaw43_row_ok n r105_0.1 r138_0.1 r171_0 cr171_0), b171_18, trivial⟩
        · have h := Option.some.inj h
          subst h
          exact At.fin hm ht ⟨[(3, .b true), (8, .b true), (13, .b false)], [], [], [2], []⟩ [((r88_0.1 : Int) == r89_0.1) = true, ((r88_0.2 : Int) == r89_0.2) = true, (r105_0.2 == r138_0.2) = false] (by kernel_rfl) ⟨b171_3, b171_8, b171_13, trivial⟩
      · have h := Option.some.inj h
        subst h
        exact At.fin hm ht ⟨[(3, .b true), (8, .b false)], [], [], [2], []⟩ [((r88_0.1 : Int) == r89_0.1) = true, ((r88_0.2 : Int) == r89_0.2) = false] (by kernel_rfl) ⟨b171_3, b171_8, trivial⟩
    · have h := Option.some.inj h
      subst h
      exact At.fin hm ht ⟨[(3, .b false)], [], [], [2], []⟩ [((r88_0.1 : Int) == r89_0.1) = false] (by kernel_rfl) ⟨b171_3, trivial⟩
/-! brougham/broughamref43.Fold -/
def f63_broughamref43_Fold_in (n_ : Int) : Inn := ⟨[.c (.d (.int .i64 n_))], [], [], 0⟩
def f63_broughamref43_Fold_out (r : Int) : Out := ⟨.one (.c (.d (.int .u64 r))), [], [], 0⟩
def f63_broughamref43_Fold (n_ : Int) : Option (Int) :=
  if (decide ((n_ : Int) ≥ 0)) = true then
    some (IntKind.wrap .u64 (2 * (IntKind.wrap .u64 n_)))
  else
    some (IntKind.wrap .u64 ((IntKind.wrap .u64 (2 * (IntKind.wrap .u64 (IntKind.wrap .i64 (0 - (IntKind.wrap .i64 (n_ + 1))))))) + 1))
theorem f63_broughamref43_Fold_ok (n_ : Int) (r : Int) (h : f63_broughamref43_Fold n_ = some r) : FnOK Go.Proofs.Try.prog 63 (f63_broughamref43_Fold_in n_) (f63_broughamref43_Fold_out r) := by
  unfold f63_broughamref43_Fold at h
  refine At.fn (r := 0) Go.Proofs.Try.func63 rfl (by kernel_rfl) rfl rfl (by kernel_rfl) ?_
  show At Go.Proofs.Try.prog Go.Proofs.Try.f63 0 0 ⟨[(0, .one (.c (.d (.int .i64 n_))))], [], [], 0⟩ _
  refine At.step hm ht ⟨[], [], [], [0], []⟩ 1 ⟨[(0, .one (.c (.d (.int .i64 n_))))], [], [], 0⟩ [] (by kernel_rfl) trivial ?_
  rcases iteS h with ⟨b194_e0, h⟩ | ⟨b194_e0, h⟩
  · refine At.step hm ht ⟨[], [true], [], [0], []⟩ 2 ⟨[(0, .one (.c (.d (.int .i64 n_))))], [], [], 0⟩ [(decide ((n_ : Int) ≥ 0)) = true] (by kernel_rfl) ⟨b194_e0, trivial⟩ ?_
    have h := Option.some.inj h
    subst h
    exact At.fin hm ht ⟨[], [], [], [2], []⟩ [] (by kernel_rfl) trivial
  · refine At.step hm ht ⟨[], [false], [], [0], []⟩ 3 ⟨[(0, .one (.c (.d (.int .i64 n_))))], [], [], 0⟩ [(decide ((n_ : Int) ≥ 0)) = false] (by kernel_rfl) ⟨b194_e0, trivial⟩ ?_
    have h := Option.some.inj h
    subst h
    exact At.fin hm ht ⟨[], [], [], [2], []⟩ [] (by kernel_rfl) trivial
/-! brougham/varint.Deltas -/
def f65_varint_Deltas_in (l : List Int) : Inn := ⟨[.c (.d (.sl (.int .i64) l))], [], [], 0⟩
def f65_varint_Deltas_out (r : List Int) : Out := ⟨.one (.c (.own 0 (.int .u8) r)), [(0, ⟨5, 0⟩)], [], 1⟩
def f65_varint_Deltas_L4 : Nat → (List Int) → Int → (List Int) → Int → Int → Option (List Int)
  | 0, _, _, _, _, _ => none
  | n + 1, b, last, t7, t8, t9 =>
    if (decide ((t9 : Int) < t8)) = true then
      if (0 : Int) ≤ t9 ∧ t9 < (((t7).length : Nat) : Int) then
      (f62_varint_Fold (IntKind.wrap .i64 ((t7.getD t9.toNat 0) - last))).bind fun r234_0 =>
      (f22_varint_Put n b [r234_0]).bind fun r234_1 =>
      f65_varint_Deltas_L4 n r234_1 (t7.getD t9.toNat 0) t7 t8 (IntKind.wrap .i64 (t9 + 1))
      else none
    else
      some (b)
def f65_varint_Deltas_L4_k (e : List Int) (o : Out) : Prop := At Go.Proofs.Try.prog Go.Proofs.Try.f65 0 9 ⟨[(3, .one (.c (.own 0 (.int .u8) e)))], [(0, some ⟨5, 0⟩)], [], 1⟩ o
theorem f65_varint_Deltas_L4_ok (n : Nat) : ∀ (b : List Int) (last : Int) (t7 : List Int) (t8 : Int) (t9 : Int) (w : List Int) (h : f65_varint_Deltas_L4 n b last t7 t8 t9 = some w) (o : Out) (hk : f65_varint_Deltas_L4_k w o), At Go.Proofs.Try.prog Go.Proofs.Try.f65 0 4 ⟨[(3, .one (.c (.own 0 (.int .u8) b))), (4, .one (.c (.d (.int .i64 last)))), (7, .one (.c (.d (.sl (.int .i64) t7)))), (8, .one (.c (.d (.int .i64 t8)))), (9, .one (.c (.d (.int .i64 t9))))], [(0, some ⟨5, 0⟩)], [], 1⟩ o := by
  induction n with
  | zero => intro b last t7 t8 t9 w h; rw [f65_varint_Deltas_L4] at h; cases h
  | succ n ih =>
    intro b last t7 t8 t9 w h o hk
    rw [f65_varint_Deltas_L4] at h
    rcases iteS h with ⟨b232_e0, h⟩ | ⟨b232_e0, h⟩
    · refine At.step hm ht ⟨[], [true], [], [3, 4, 7, 8, 9], [0]⟩ 5 ⟨[(3, .one (.c (.own 0 (.int .u8) b))), (4, .one (.c (.d (.int .i64 last)))), (7, .one (.c (.d (.sl (.int .i64) t7)))), (8, .one (.c (.d (.int .i64 t8)))), (9, .one (.c (.d (.int .i64 t9))))], [(0, some ⟨5, 0⟩)], [], 1⟩ [(decide ((t9 : Int) < t8)) = true] (by kernel_rfl) ⟨b232_e0, trivial⟩ ?_
      obtain ⟨g233_0, h⟩ := ifS h
      refine At.step hm ht ⟨[], [], [], [3, 4, 6, 7, 8, 9], [0]⟩ 6 ⟨[(3, .one (.c (.own 0 (.int .u8) b))), (4, .one (.c (.d (.int .i64 last)))), (6, .one (.c (.d (.int .i64 (t7.getD t9.toNat 0))))), (7, .one (.c (.d (.sl (.int .i64) t7)))), (8, .one (.c (.d (.int .i64 t8)))), (9, .one (.c (.d (.int .i64 t9))))], [(0, some ⟨5, 0⟩)], [], 1⟩ [(0 : Int) ≤ t9 ∧ t9 < (((t7).length : Nat) : Int)] (by kernel_rfl) ⟨g233_0, trivial⟩ ?_
      obtain ⟨r234_0, cr234_0, h⟩ := bindS h
      obtain ⟨r234_1, cr234_1, h⟩ := bindS h
      refine At.step hm ht ⟨[(4, .call [] [] (f62_varint_Fold_out r234_0)), (6, .call [] [] (f22_varint_Put_out r234_1))], [], [], [3, 6, 7, 8, 9], [6]⟩ 7 ⟨[(3, .one (.c (.own 0 (.int .u8) r234_1))), (6, .one (.c (.d (.int .i64 (t7.getD t9.toNat 0))))), (7, .one (.c (.d (.sl (.int .i64) t7)))), (8, .one (.c (.d (.int .i64 t8)))), (9, .one (.c (.d (.int .i64 t9))))], [(0, some ⟨5, 0⟩)], [], 1⟩ [FnOK Go.Proofs.Try.prog 62 (f62_varint_Fold_in (IntKind.wrap .i64 ((t7.getD t9.toNat 0) - last))) (f62_varint_Fold_out r234_0), FnOK Go.Proofs.Try.prog 22 (f22_varint_Put_in b [r234_0]) (f22_varint_Put_out r234_1)] (by kernel_rfl) ⟨(f62_varint_Fold_ok (IntKind.wrap .i64 ((t7.getD t9.toNat 0) - last)) r234_0 cr234_0), (f22_varint_Put_ok n b [r234_0] r234_1 cr234_1), trivial⟩ ?_
      refine At.step hm ht ⟨[], [], [], [3, 4, 7, 8, 9], [0]⟩ 8 ⟨[(3, .one (.c (.own 0 (.int .u8) r234_1))), (4, .one (.c (.d (.int .i64 (t7.getD t9.toNat 0))))), (7, .one (.c (.d (.sl (.int .i64) t7)))), (8, .one (.c (.d (.int .i64 t8)))), (9, .one (.c (.d (.int .i64 t9))))], [(0, some ⟨5, 0⟩)], [], 1⟩ [] (by kernel_rfl) trivial ?_
      refine At.step hm ht ⟨[], [], [], [3, 4, 7, 8, 9], [0]⟩ 4 ⟨[(3, .one (.c (.own 0 (.int .u8) r234_1))), (4, .one (.c (.d (.int .i64 (t7.getD t9.toNat 0))))), (7, .one (.c (.d (.sl (.int .i64) t7)))), (8, .one (.c (.d (.int .i64 t8)))), (9, .one (.c (.d (.int .i64 (IntKind.wrap .i64 (t9 + 1))))))], [(0, some ⟨5, 0⟩)], [], 1⟩ [] (by kernel_rfl) trivial ?_
      exact ih r234_1 (t7.getD t9.toNat 0) t7 t8 (IntKind.wrap .i64 (t9 + 1)) w h o hk
    · refine At.step hm ht ⟨[], [false], [], [3], [0]⟩ 9 ⟨[(3, .one (.c (.own 0 (.int .u8) b)))], [(0, some ⟨5, 0⟩)], [], 1⟩ [(decide ((t9 : Int) < t8)) = false] (by kernel_rfl) ⟨b232_e0, trivial⟩ ?_
      have h := Option.some.inj h
      subst h
      exact hk
def f65_varint_Deltas (n : Nat) (l : List Int) : Option (List Int) :=
  (f65_varint_Deltas_L4 n [] 0 l ((l.length : Nat) : Int) 0).bind fun w237 =>
  some w237
theorem f65_varint_Deltas_ok (n : Nat) (l : List Int) (r : List Int) (h : f65_varint_Deltas n l = some r) : FnOK Go.Proofs.Try.prog 65 (f65_varint_Deltas_in l) (f65_varint_Deltas_out r) := by
  unfold f65_varint_Deltas at h
  refine At.fn (r := 0) Go.Proofs.Try.func65 rfl (by kernel_rfl) rfl rfl (by kernel_rfl) ?_
  show At Go.Proofs.Try.prog Go.Proofs.Try.f65 0 0 ⟨[(0, .one (.c (.d (.sl (.int .i64) l))))], [], [], 0⟩ _
  refine At.step hm ht ⟨[], [], [], [0], []⟩ 1 ⟨[(0, .one (.c (.d (.sl (.int .i64) l))))], [], [], 0⟩ [] (by kernel_rfl) trivial ?_
  refine At.step hm ht ⟨[], [], [], [0, 3], []⟩ 2 ⟨[(0, .one (.c (.d (.sl (.int .i64) l)))), (3, .one (.c (.d (.sl .unit []))))], [], [], 0⟩ [] (by kernel_rfl) trivial ?_
  refine At.step hm ht ⟨[], [], [], [0, 3, 4], []⟩ 3 ⟨[(0, .one (.c (.d (.sl (.int .i64) l)))), (3, .one (.c (.d (.sl .unit [])))), (4, .one (.c (.d (.int .i64 0))))], [], [], 0⟩ [] (by kernel_rfl) trivial ?_
  refine At.step hm ht ⟨[], [], [.nil false 3 0 (.int .u8) (some 5)], [3, 4, 7, 8, 9], [3]⟩ 4 ⟨[(3, .one (.c (.own 0 (.int .u8) []))), (4, .one (.c (.d (.int .i64 0)))), (7, .one (.c (.d (.sl (.int .i64) l)))), (8, .one (.c (.d (.int .i64 ((l.length : Nat) : Int))))), (9, .one (.c (.d (.int .i64 0))))], [(0, some ⟨5, 0⟩)], [], 1⟩ [] (by kernel_rfl) trivial ?_
  obtain ⟨w237, cw237, h⟩ := bindS h
  refine f65_varint_Deltas_L4_ok n [] 0 l ((l.length : Nat) : Int) 0 w237 cw237 _ ?_
  show At Go.Proofs.Try.prog Go.Proofs.Try.f65 0 9 ⟨[(3, .one (.c (.own 0 (.int .u8) w237)))], [(0, some ⟨5, 0⟩)], [], 1⟩ _
  have h := Option.some.inj h
  subst h
  exact At.fin hm ht ⟨[], [], [], [2], [0]⟩ [] (by kernel_rfl) trivial
/-! brougham/varint.Undeltas -/
def f64_varint_Undeltas_in (b : List Int) : Inn := ⟨[.c (.d (.sl (.int .u8) b))], [], [], 0⟩
def f64_varint_Undeltas_out (r : List Int × Bool) : Out := ⟨.tup [.c (.own 0 (.int .i64) r.1), .c (.d (.bool r.2))], [(0, ⟨2, 0⟩)], [], 1⟩
def f64_varint_Undeltas_L7 : Nat → (List Int) → Int → (List Int) → Int → Int → Option (List Int)
  | 0, _, _, _, _, _ => none
  | n + 1, out, last, t17, t18, t19 =>
    if (decide ((t19 : Int) < t18)) = true then
      if (0 : Int) ≤ t19 ∧ t19 < (((t17).length : Nat) : Int) then
      (f61_varint_Unfold (t17.getD t19.toNat 0)).bind fun r276_0 =>
      if out.length + [(IntKind.wrap .i64 (last + r276_0))].length ≤ maxLen ∧ (out.length + [(IntKind.wrap .i64 (last + r276_0))].length) * 8 ≤ 140737488355328 then
      f64_varint_Undeltas_L7 n (out ++ [(IntKind.wrap .i64 (last + r276_0))]) (IntKind.wrap .i64 (last + r276_0)) t17 t18 (IntKind.wrap .i64 (t19 + 1))
      else none
      else none
    else
      some (out)
def f64_varint_Undeltas_L7_k (e : List Int) (o : Out) : Prop := At Go.Proofs.Try.prog Go.Proofs.Try.f64 0 12 ⟨[(6, .one (.c (.own 0 (.int .i64) e)))], [(0, some ⟨2, 0⟩)], [], 1⟩ o
theorem f64_varint_Undeltas_L7_ok (n : Nat) : ∀ (out : List Int) (last : Int) (t17 : List Int) (t18 : Int) (t19 : Int) (w : List Int) (h : f64_varint_Undeltas_L7 n out last t17 t18 t19 = some w) (o : Out) (hk : f64_varint_Undeltas_L7_k w o), At Go.Proofs.Try.prog Go.Proofs.Try.f64 0 7 ⟨[(6, .one (.c (.own 0 (.int .i64) out))), (7, .one (.c (.d (.int .i64 last)))), (17, .one (.c (.own 1 (.int .u64) t17))), (18, .one (.c (.d (.int .i64 t18)))), (19, .one (.c (.d (.int .i64 t19))))], [(0, some ⟨2, 0⟩), (1, some ⟨37, 0⟩)], [], 2⟩ o := by
  induction n with
  | zero => intro out last t17 t18 t19 w h; rw [f64_varint_Undeltas_L7] at h; cases h
  | succ n ih =>
    intro out last t17 t18 t19 w h o hk
    rw [f64_varint_Undeltas_L7] at h
    rcases iteS h with ⟨b274_e0, h⟩ | ⟨b274_e0, h⟩
    · refine At.step hm ht ⟨[], [true], [], [6, 7, 17, 18, 19], [0, 1]⟩ 8 ⟨[(6, .one (.c (.own 0 (.int .i64) out))), (7, .one (.c (.d (.int .i64 last)))), (17, .one (.c (.own 1 (.int .u64) t17))), (18, .one (.c (.d (.int .i64 t18)))), (19, .one (.c (.d (.int .i64 t19))))], [(0, some ⟨2, 0⟩), (1, some ⟨37, 0⟩)], [], 2⟩ [(decide ((t19 : Int) < t18)) = true] (by kernel_rfl) ⟨b274_e0, trivial⟩ ?_
      obtain ⟨g275_0, h⟩ := ifS h
      refine At.step hm ht ⟨[], [], [], [6, 7, 9, 17, 18, 19], [0, 1]⟩ 9 ⟨[(6, .one (.c (.own 0 (.int .i64) out))), (7, .one (.c (.d (.int .i64 last)))), (9, .one (.c (.d (.int .u64 (t17.getD t19.toNat 0))))), (17, .one (.c (.own 1 (.int .u64) t17))), (18, .one (.c (.d (.int .i64 t18)))), (19, .one (.c (.d (.int .i64 t19))))], [(0, some ⟨2, 0⟩), (1, some ⟨37, 0⟩)], [], 2⟩ [(0 : Int) ≤ t19 ∧ t19 < (((t17).length : Nat) : Int)] (by kernel_rfl) ⟨g275_0, trivial⟩ ?_
      obtain ⟨r276_0, cr276_0, h⟩ := bindS h
      refine At.step hm ht ⟨[(2, .call [] [] (f61_varint_Unfold_out r276_0))], [], [], [6, 7, 17, 18, 19], [0, 1]⟩ 10 ⟨[(6, .one (.c (.own 0 (.int .i64) out))), (7, .one (.c (.d (.int .i64 (IntKind.wrap .i64 (last + r276_0)))))), (17, .one (.c (.own 1 (.int .u64) t17))), (18, .one (.c (.d (.int .i64 t18)))), (19, .one (.c (.d (.int .i64 t19))))], [(0, some ⟨2, 0⟩), (1, some ⟨37, 0⟩)], [], 2⟩ [FnOK Go.Proofs.Try.prog 61 (f61_varint_Unfold_in (t17.getD t19.toNat 0)) (f61_varint_Unfold_out r276_0)] (by kernel_rfl) ⟨(f61_varint_Unfold_ok (t17.getD t19.toNat 0) r276_0 cr276_0), trivial⟩ ?_
      obtain ⟨g277_0, h⟩ := ifS h
      refine At.step hm ht ⟨[], [], [], [6, 7, 17, 18, 19], [5, 1]⟩ 11 ⟨[(6, .one (.c (.own 0 (.int .i64) (out ++ [(IntKind.wrap .i64 (last + r276_0))])))), (7, .one (.c (.d (.int .i64 (IntKind.wrap .i64 (last + r276_0)))))), (17, .one (.c (.own 1 (.int .u64) t17))), (18, .one (.c (.d (.int .i64 t18)))), (19, .one (.c (.d (.int .i64 t19))))], [(0, some ⟨2, 0⟩), (1, some ⟨37, 0⟩)], [], 2⟩ [out.length + [(IntKind.wrap .i64 (last + r276_0))].length ≤ maxLen ∧ (out.length + [(IntKind.wrap .i64 (last + r276_0))].length) * 8 ≤ 140737488355328] (by kernel_rfl) ⟨g277_0, trivial⟩ ?_
      refine At.step hm ht ⟨[], [], [], [6, 7, 17, 18, 19], [0, 1]⟩ 7 ⟨[(6, .one (.c (.own 0 (.int .i64) (out ++ [(IntKind.wrap .i64 (last + r276_0))])))), (7, .one (.c (.d (.int .i64 (IntKind.wrap .i64 (last + r276_0)))))), (17, .one (.c (.own 1 (.int .u64) t17))), (18, .one (.c (.d (.int .i64 t18)))), (19, .one (.c (.d (.int .i64 (IntKind.wrap .i64 (t19 + 1))))))], [(0, some ⟨2, 0⟩), (1, some ⟨37, 0⟩)], [], 2⟩ [] (by kernel_rfl) trivial ?_
      exact ih (out ++ [(IntKind.wrap .i64 (last + r276_0))]) (IntKind.wrap .i64 (last + r276_0)) t17 t18 (IntKind.wrap .i64 (t19 + 1)) w h o hk
    · refine At.step hm ht ⟨[], [false], [], [6], [0]⟩ 12 ⟨[(6, .one (.c (.own 0 (.int .i64) out)))], [(0, some ⟨2, 0⟩)], [], 1⟩ [(decide ((t19 : Int) < t18)) = false] (by kernel_rfl) ⟨b274_e0, trivial⟩ ?_
      have h := Option.some.inj h
      subst h
      exact hk
def f64_varint_Undeltas (n : Nat) (b : List Int) : Option (List Int × Bool) :=
  (f26_varint_All n b).bind fun r268_0 =>
  if (!r268_0.2) = true then
    some ([], false)
  else
    (f64_varint_Undeltas_L7 n [] 0 r268_0.1 ((r268_0.1.length : Nat) : Int) 0).bind fun w279 =>
    some (w279, true)
theorem f64_varint_Undeltas_ok (n : Nat) (b : List Int) (r : List Int × Bool) (h : f64_varint_Undeltas n b = some r) : FnOK Go.Proofs.Try.prog 64 (f64_varint_Undeltas_in b) (f64_varint_Undeltas_out r) := by
  unfold f64_varint_Undeltas at h
  refine At.fn (r := 0) Go.Proofs.Try.func64 rfl (by kernel_rfl) rfl rfl (by kernel_rfl) ?_
  show At Go.Proofs.Try.prog Go.Proofs.Try.f64 0 0 ⟨[(0, .one (.c (.d (.sl (.int .u8) b))))], [], [], 0⟩ _
  refine At.step hm ht ⟨[], [], [], [0], []⟩ 1 ⟨[(0, .one (.c (.d (.sl (.int .u8) b))))], [], [], 0⟩ [] (by kernel_rfl) trivial ?_
  obtain ⟨r268_0, cr268_0, h⟩ := bindS h
  refine At.step hm ht ⟨[(1, .call [] [] (f26_varint_All_out r268_0))], [], [], [4, 5], [1]⟩ 2 ⟨[(4, .one (.c (.own 0 (.int .u64) r268_0.1))), (5, .one (.c (.d (.bool r268_0.2))))], [(0, some ⟨37, 0⟩)], [], 1⟩ [FnOK Go.Proofs.Try.prog 26 (f26_varint_All_in b) (f26_varint_All_out r268_0)] (by kernel_rfl) ⟨(f26_varint_All_ok n b r268_0 cr268_0), trivial⟩ ?_
  rcases iteS h with ⟨b269_e0, h⟩ | ⟨b269_e0, h⟩
  · refine At.step hm ht ⟨[], [true], [], [], []⟩ 3 ⟨[], [], [], 0⟩ [(!r268_0.2) = true] (by kernel_rfl) ⟨b269_e0, trivial⟩ ?_
    have h := Option.some.inj h
    subst h
    exact At.fin hm ht ⟨[], [], [.nil false 2 0 (.int .i64) (some 2)], [2, 3], [2]⟩ [] (by kernel_rfl) trivial
  · refine At.step hm ht ⟨[], [false], [], [4], [0]⟩ 4 ⟨[(4, .one (.c (.own 0 (.int .u64) r268_0.1)))], [(0, some ⟨37, 0⟩)], [], 1⟩ [(!r268_0.2) = false] (by kernel_rfl) ⟨b269_e0, trivial⟩ ?_
    refine At.step hm ht ⟨[], [], [], [4, 6], [0]⟩ 5 ⟨[(4, .one (.c (.own 0 (.int .u64) r268_0.1))), (6, .one (.c (.d (.sl .unit []))))], [(0, some ⟨37, 0⟩)], [], 1⟩ [] (by kernel_rfl) trivial ?_
    refine At.step hm ht ⟨[], [], [], [4, 6, 7], [0]⟩ 6 ⟨[(4, .one (.c (.own 0 (.int .u64) r268_0.1))), (6, .one (.c (.d (.sl .unit [])))), (7, .one (.c (.d (.int .i64 0))))], [(0, some ⟨37, 0⟩)], [], 1⟩ [] (by kernel_rfl) trivial ?_
    refine At.step hm ht ⟨[], [], [.nil false 6 0 (.int .i64) (some 2)], [6, 7, 17, 18, 19], [4, 0]⟩ 7 ⟨[(6, .one (.c (.own 0 (.int .i64) []))), (7, .one (.c (.d (.int .i64 0)))), (17, .one (.c (.own 1 (.int .u64) r268_0.1))), (18, .one (.c (.d (.int .i64 ((r268_0.1.length : Nat) : Int))))), (19, .one (.c (.d (.int .i64 0))))], [(0, some ⟨2, 0⟩), (1, some ⟨37, 0⟩)], [], 2⟩ [] (by kernel_rfl) trivial ?_
    obtain ⟨w279, cw279, h⟩ := bindS h
    refine f64_varint_Undeltas_L7_ok n [] 0 r268_0.1 ((r268_0.1.length : Nat) : Int) 0 w279 cw279 _ ?_
    show At Go.Proofs.Try.prog Go.Proofs.Try.f64 0 12 ⟨[(6, .one (.c (.own 0 (.int .i64) w279)))], [(0, some ⟨2, 0⟩)], [], 1⟩ _
    have h := Option.some.inj h
    subst h
    exact At.fin hm ht ⟨[], [], [], [2, 3], [0]⟩ [] (by kernel_rfl) trivial
/-! brougham/broughamlaw43.VarintBack -/
def f12_broughamlaw43_VarintBack_in (l : List Int) (b : List Int) : Inn := ⟨[.c (.d (.sl (.int .i64) l)), .c (.d (.sl (.int .u8) b))], [], [], 0⟩
def f12_broughamlaw43_VarintBack_out (r : Bool) : Out := ⟨.one (.c (.d (.bool r))), [], [], 0⟩
def f12_broughamlaw43_VarintBack_L5 : Nat → (List Int) → (List Int) → (List Int) → Int → Option ((Bool) ⊕ (List Int × List Int × List Int))
  | 0, _, _, _, _ => none
  | n + 1, l, b, u, i =>
    if (decide ((i : Int) < ((l.length : Nat) : Int))) = true then
      if (0 : Int) ≤ i ∧ i < (((l).length : Nat) : Int) then
      (f62_varint_Fold (l.getD i.toNat 0)).bind fun r208_1 =>
      (f61_varint_Unfold r208_1).bind fun r208_2 =>
      if (0 : Int) ≤ i ∧ i < (((l).length : Nat) : Int) then
      if ((r208_2 : Int) != (l.getD i.toNat 0)) = true then
        some (.inl false)
      else
        if (0 : Int) ≤ i ∧ i < (((l).length : Nat) : Int) then
        (f62_varint_Fold (l.getD i.toNat 0)).bind fun r208_5 =>
        if (0 : Int) ≤ i ∧ i < (((l).length : Nat) : Int) then
        (f63_broughamref43_Fold (l.getD i.toNat 0)).bind fun r208_7 =>
        if ((r208_5 : Int) != r208_7) = true then
          some (.inl false)
        else
          if (0 : Int) ≤ i ∧ i < (((l).length : Nat) : Int) then
          (f61_varint_Unfold (IntKind.wrap .u64 (l.getD i.toNat 0))).bind fun r208_9 =>
          (f62_varint_Fold r208_9).bind fun r208_10 =>
          if (0 : Int) ≤ i ∧ i < (((l).length : Nat) : Int) then
          if ((r208_10 : Int) != (IntKind.wrap .u64 (l.getD i.toNat 0))) = true then
            some (.inl false)
          else
            if (0 : Int) ≤ i ∧ i < (((l).length : Nat) : Int) then
            if u.length + [(IntKind.wrap .u64 (l.getD i.toNat 0))].length ≤ maxLen ∧ (u.length + [(IntKind.wrap .u64 (l.getD i.toNat 0))].length) * 8 ≤ 140737488355328 then
            f12_broughamlaw43_VarintBack_L5 n l b (u ++ [(IntKind.wrap .u64 (l.getD i.toNat 0))]) (IntKind.wrap .i64 (i + 1))
            else none
            else none
          else none
          else none
        else none
        else none
      else none
      else none
    else
      some (.inr ((l, b, u)))
def f12_broughamlaw43_VarintBack_L5_k (w : (Bool) ⊕ (List Int × List Int × List Int)) (o : Out) : Prop := match w with
  | .inl e => o = f12_broughamlaw43_VarintBack_out e
  | .inr e => At Go.Proofs.Try.prog Go.Proofs.Try.f12 0 10 ⟨[(0, .one (.c (.d (.sl (.int .i64) e.1)))), (1, .one (.c (.d (.sl (.int .u8) e.2.1)))), (5, .one (.c (.own 0 (.int .u64) e.2.2)))], [(0, some ⟨37, 0⟩)], [], 1⟩ o
theorem f12_broughamlaw43_VarintBack_L5_ok (n : Nat) : ∀ (l : List Int) (b : List Int) (u : List Int) (i : Int) (w : (Bool) ⊕ (List Int × List Int × List Int)) (h : f12_broughamlaw43_VarintBack_L5 n l b u i = some w) (o : Out) (hk : f12_broughamlaw43_VarintBack_L5_k w o), At Go.Proofs.Try.prog Go.Proofs.Try.f12 0 5 ⟨[(0, .one (.c (.d (.sl (.int .i64) l)))), (1, .one (.c (.d (.sl (.int .u8) b)))), (5, .one (.c (.own 0 (.int .u64) u))), (6, .one (.c (.d (.int .i64 i))))], [(0, some ⟨37, 0⟩)], [], 1⟩ o := by
  induction n with
  | zero => intro l b u i w h; rw [f12_broughamlaw43_VarintBack_L5] at h; cases h
  | succ n ih =>
    intro l b u i w h o hk
    rw [f12_broughamlaw43_VarintBack_L5] at h
    rcases iteS h with ⟨b207_e0, h⟩ | ⟨b207_e0, h⟩
    · refine At.step hm ht ⟨[], [true], [], [0, 1, 5, 6], [0]⟩ 7 ⟨[(0, .one (.c (.d (.sl (.int .i64) l)))), (1, .one (.c (.d (.sl (.int .u8) b)))), (5, .one (.c (.own 0 (.int .u64) u))), (6, .one (.c (.d (.int .i64 i))))], [(0, some ⟨37, 0⟩)], [], 1⟩ [(decide ((i : Int) < ((l.length : Nat) : Int))) = true] (by kernel_rfl) ⟨b207_e0, trivial⟩ ?_
      obtain ⟨g208_0, h⟩ := ifS h
      obtain ⟨r208_1, cr208_1, h⟩ := bindS h
      obtain ⟨r208_2, cr208_2, h⟩ := bindS h
      obtain ⟨g208_3, h⟩ := ifS h
      rcases iteS h with ⟨b208_11, h⟩ | ⟨b208_11, h⟩
      · refine At.step hm ht ⟨[(4, .call [] [] (f62_varint_Fold_out r208_1)), (5, .call [] [] (f61_varint_Unfold_out r208_2)), (11, .b true)], [true], [], [], []⟩ 8 ⟨[], [], [], 0⟩ [(0 : Int) ≤ i ∧ i < (((l).length : Nat) : Int), FnOK Go.Proofs.Try.prog 62 (f62_varint_Fold_in (l.getD i.toNat 0)) (f62_varint_Fold_out r208_1), FnOK Go.Proofs.Try.prog 61 (f61_varint_Unfold_in r208_1) (f61_varint_Unfold_out r208_2), (0 : Int) ≤ i ∧ i < (((l).length : Nat) : Int), ((r208_2 : Int) != (l.getD i.toNat 0)) = true, true = true] (by kernel_rfl) ⟨g208_0, (f62_varint_Fold_ok (l.getD i.toNat 0) r208_1 cr208_1), (f61_varint_Unfold_ok r208_1 r208_2 cr208_2), g208_3, b208_11, rfl, trivial⟩ ?_
        have h := Option.some.inj h
        subst h
        have hk : o = f12_broughamlaw43_VarintBack_out false := hk
        subst hk
        exact At.fin hm ht ⟨[], [], [], [4], []⟩ [] (by kernel_rfl) trivial
      · obtain ⟨g208_4, h⟩ := ifS h
        obtain ⟨r208_5, cr208_5, h⟩ := bindS h
        obtain ⟨g208_6, h⟩ := ifS h
        obtain ⟨r208_7, cr208_7, h⟩ := bindS h
        rcases iteS h with ⟨b208_24, h⟩ | ⟨b208_24, h⟩
        · refine At.step hm ht ⟨[(4, .call [] [] (f62_varint_Fold_out r208_1)), (5, .call [] [] (f61_varint_Unfold_out r208_2)), (11, .b false), (16, .call [] [] (f62_varint_Fold_out r208_5)), (21, .call [] [] (f63_broughamref43_Fold_out r208_7)), (24, .b true)], [true], [], [], []⟩ 8 ⟨[], [], [], 0⟩ [(0 : Int) ≤ i ∧ i < (((l).length : Nat) : Int), FnOK Go.Proofs.Try.prog 62 (f62_varint_Fold_in (l.getD i.toNat 0)) (f62_varint_Fold_out r208_1), FnOK Go.Proofs.Try.prog 61 (f61_varint_Unfold_in r208_1) (f61_varint_Unfold_out r208_2), (0 : Int) ≤ i ∧ i < (((l).length : Nat) : Int), ((r208_2 : Int) != (l.getD i.toNat 0)) = false, (0 : Int) ≤ i ∧ i < (((l).length : Nat) : Int), FnOK Go.Proofs.Try.prog 62 (f62_varint_Fold_in (l.getD i.toNat 0)) (f62_varint_Fold_out r208_5), (0 : Int) ≤ i ∧ i < (((l).length : Nat) : Int), FnOK Go.Proofs.Try.prog 63 (f63_broughamref43_Fold_in (l.getD i.toNat 0)) (f63_broughamref43_Fold_out r208_7), ((r208_5 : Int) != r208_7) = true, true = true] (by kernel_rfl) ⟨g208_0, (f62_varint_Fold_ok (l.getD i.toNat 0) r208_1 cr208_1), (f61_varint_Unfold_ok r208_1 r208_2 cr208_2), g208_3, b208_11, g208_4, (f62_varint_Fold_ok (l.getD i.toNat 0) r208_5 cr208_5), g208_6, (f63_broughamref43_Fold_ok (l.getD i.toNat 0) r208_7 cr208_7), b208_24, rfl, trivial⟩ ?_
          have h := Option.some.inj h
          subst h
          have hk : o = f12_broughamlaw43_VarintBack_out false := hk
          subst hk
          exact At.fin hm ht ⟨[], [], [], [4], []⟩ [] (by kernel_rfl) trivial
        · obtain ⟨g208_8, h⟩ := ifS h
          obtain ⟨r208_9, cr208_9, h⟩ := bindS h
          obtain ⟨r208_10, cr208_10, h⟩ := bindS h
          obtain ⟨g208_11, h⟩ := ifS h
          rcases iteS h with ⟨b208_e0, h⟩ | ⟨b208_e0, h⟩
          · refine At.step hm ht ⟨[(4, .call [] [] (f62_varint_Fold_out r208_1)), (5, .call [] [] (f61_varint_Unfold_out r208_2)), (11, .b false), (16, .call [] [] (f62_varint_Fold_out r208_5)), (21, .call [] [] (f63_broughamref43_Fold_out r208_7)), (24, .b false), (30, .call [] [] (f61_varint_Unfold_out r208_9)), (31, .call [] [] (f62_varint_Fold_out r208_10))], [true], [], [], []⟩ 8 ⟨[], [], [], 0⟩ [(0 : Int) ≤ i ∧ i < (((l).length : Nat) : Int), FnOK Go.Proofs.Try.prog 62 (f62_varint_Fold_in (l.getD i.toNat 0)) (f62_varint_Fold_out r208_1), FnOK Go.Proofs.Try.prog 61 (f61_varint_Unfold_in r208_1) (f61_varint_Unfold_out r208_2), (0 : Int) ≤ i ∧ i < (((l).length : Nat) : Int), ((r208_2 : Int) != (l.getD i.toNat 0)) = false, (0 : Int) ≤ i ∧ i < (((l).length : Nat) : Int), FnOK Go.Proofs.Try.prog 62 (f62_varint_Fold_in (l.getD i.toNat 0)) (f62_varint_Fold_out r208_5), (0 : Int) ≤ i ∧ i < (((l).length : Nat) : Int), FnOK Go.Proofs.Try.prog 63 (f63_broughamref43_Fold_in (l.getD i.toNat 0)) (f63_broughamref43_Fold_out r208_7), ((r208_5 : Int) != r208_7) = false, (0 : Int) ≤ i ∧ i < (((l).length : Nat) : Int), FnOK Go.Proofs.Try.prog 61 (f61_varint_Unfold_in (IntKind.wrap .u64 (l.getD i.toNat 0))) (f61_varint_Unfold_out r208_9), FnOK Go.Proofs.Try.prog 62 (f62_varint_Fold_in r208_9) (f62_varint_Fold_out r208_10), (0 : Int) ≤ i ∧ i < (((l).length : Nat) : Int), ((r208_10 : Int) != (IntKind.wrap .u64 (l.getD i.toNat 0))) = true] (by kernel_rfl) ⟨g208_0, (f62_varint_Fold_ok (l.getD i.toNat 0) r208_1 cr208_1), (f61_varint_Unfold_ok r208_1 r208_2 cr208_2), g208_3, b208_11, g208_4, (f62_varint_Fold_ok (l.getD i.toNat 0) r208_5 cr208_5), g208_6, (f63_broughamref43_Fold_ok (l.getD i.toNat 0) r208_7 cr208_7), b208_24, g208_8, (f61_varint_Unfold_ok (IntKind.wrap .u64 (l.getD i.toNat 0)) r208_9 cr208_9), (f62_varint_Fold_ok r208_9 r208_10 cr208_10), g208_11, b208_e0, trivial⟩ ?_
            have h := Option.some.inj h
            subst h
            have hk : o = f12_broughamlaw43_VarintBack_out false := hk
            subst hk
            exact At.fin hm ht ⟨[], [], [], [4], []⟩ [] (by kernel_rfl) trivial
          · refine At.step hm ht ⟨[(4, .call [] [] (f62_varint_Fold_out r208_1)), (5, .call [] [] (f61_varint_Unfold_out r208_2)), (11, .b false), (16, .call [] [] (f62_varint_Fold_out r208_5)), (21, .call [] [] (f63_broughamref43_Fold_out r208_7)), (24, .b false), (30, .call [] [] (f61_varint_Unfold_out r208_9)), (31, .call [] [] (f62_varint_Fold_out r208_10))], [false], [], [0, 1, 5, 6], [0]⟩ 9 ⟨[(0, .one (.c (.d (.sl (.int .i64) l)))), (1, .one (.c (.d (.sl (.int .u8) b)))), (5, .one (.c (.own 0 (.int .u64) u))), (6, .one (.c (.d (.int .i64 i))))], [(0, some ⟨37, 0⟩)], [], 1⟩ [(0 : Int) ≤ i ∧ i < (((l).length : Nat) : Int), FnOK Go.Proofs.Try.prog 62 (f62_varint_Fold_in (l.getD i.toNat 0)) (f62_varint_Fold_out r208_1), FnOK Go.Proofs.Try.prog 61 (f61_varint_Unfold_in r208_1) (f61_varint_Unfold_out r208_2), (0 : Int) ≤ i ∧ i < (((l).length : Nat) : Int), ((r208_2 : Int) != (l.getD i.toNat 0)) = false, (0 : Int) ≤ i ∧ i < (((l).length : Nat) : Int), FnOK Go.Proofs.Try.prog 62 (f62_varint_Fold_in (l.getD i.toNat 0)) (f62_varint_Fold_out r208_5), (0 : Int) ≤ i ∧ i < (((l).length : Nat) : Int), FnOK Go.Proofs.Try.prog 63 (f63_broughamref43_Fold_in (l.getD i.toNat 0)) (f63_broughamref43_Fold_out r208_7), ((r208_5 : Int) != r208_7) = false, (0 : Int) ≤ i ∧ i < (((l).length : Nat) : Int), FnOK Go.Proofs.Try.prog 61 (f61_varint_Unfold_in (IntKind.wrap .u64 (l.getD i.toNat 0))) (f61_varint_Unfold_out r208_9), FnOK Go.Proofs.Try.prog 62 (f62_varint_Fold_in r208_9) (f62_varint_Fold_out r208_10), (0 : Int) ≤ i ∧ i < (((l).length : Nat) : Int), ((r208_10 : Int) != (IntKind.wrap .u64 (l.getD i.toNat 0))) = false] (by kernel_rfl) ⟨g208_0, (f62_varint_Fold_ok (l.getD i.toNat 0) r208_1 cr208_1), (f61_varint_Unfold_ok r208_1 r208_2 cr208_2), g208_3, b208_11, g208_4, (f62_varint_Fold_ok (l.getD i.toNat 0) r208_5 cr208_5), g208_6, (f63_broughamref43_Fold_ok (l.getD i.toNat 0) r208_7 cr208_7), b208_24, g208_8, (f61_varint_Unfold_ok (IntKind.wrap .u64 (l.getD i.toNat 0)) r208_9 cr208_9), (f62_varint_Fold_ok r208_9 r208_10 cr208_10), g208_11, b208_e0, trivial⟩ ?_
            obtain ⟨g212_0, h⟩ := ifS h
            obtain ⟨g212_1, h⟩ := ifS h
            refine At.step hm ht ⟨[], [], [], [0, 1, 5, 6], [8]⟩ 6 ⟨[(0, .one (.c (.d (.sl (.int .i64) l)))), (1, .one (.c (.d (.sl (.int .u8) b)))), (5, .one (.c (.own 0 (.int .u64) (u ++ [(IntKind.wrap .u64 (l.getD i.toNat 0))])))), (6, .one (.c (.d (.int .i64 i))))], [(0, some ⟨37, 0⟩)], [], 1⟩ [(0 : Int) ≤ i ∧ i < (((l).length : Nat) : Int), u.length + [(IntKind.wrap .u64 (l.getD i.toNat 0))].length ≤ maxLen ∧ (u.length + [(IntKind.wrap .u64 (l.getD i.toNat 0))].length) * 8 ≤ 140737488355328] (by kernel_rfl) ⟨g212_0, g212_1, trivial⟩ ?_
            refine At.step hm ht ⟨[], [], [], [0, 1, 5, 6], [0]⟩ 5 ⟨[(0, .one (.c (.d (.sl (.int .i64) l)))), (1, .one (.c (.d (.sl (.int .u8) b)))), (5, .one (.c (.own 0 (.int .u64) (u ++ [(IntKind.wrap .u64 (l.getD i.toNat 0))])))), (6, .one (.c (.d (.int .i64 (IntKind.wrap .i64 (i + 1))))))], [(0, some ⟨37, 0⟩)], [], 1⟩ [] (by kernel_rfl) trivial ?_
            exact ih l b (u ++ [(IntKind.wrap .u64 (l.getD i.toNat 0))]) (IntKind.wrap .i64 (i + 1)) w h o hk
    · refine At.step hm ht ⟨[], [false], [], [0, 1, 5], [0]⟩ 10 ⟨[(0, .one (.c (.d (.sl (.int .i64) l)))), (1, .one (.c (.d (.sl (.int .u8) b)))), (5, .one (.c (.own 0 (.int .u64) u)))], [(0, some ⟨37, 0⟩)], [], 1⟩ [(decide ((i : Int) < ((l.length : Nat) : Int))) = false] (by kernel_rfl) ⟨b207_e0, trivial⟩ ?_
      have h := Option.some.inj h
      subst h
      exact hk
def f12_broughamlaw43_VarintBack_L15 : Nat → (List Int) → (List Int) → (List Int) → Int → Option ((Bool) ⊕ (List Int))
  | 0, _, _, _, _ => none
  | n + 1, l, b, y, i =>
    if (decide ((i : Int) < ((l.length : Nat) : Int))) = true then
      if (0 : Int) ≤ i ∧ i < (((y).length : Nat) : Int) then
      if (0 : Int) ≤ i ∧ i < (((l).length : Nat) : Int) then
      if (((y.getD i.toNat 0) : Int) != (l.getD i.toNat 0)) = true then
        some (.inl false)
      else
        f12_broughamlaw43_VarintBack_L15 n l b y (IntKind.wrap .i64 (i + 1))
      else none
      else none
    else
      some (.inr b)
def f12_broughamlaw43_VarintBack_L15_k (w : (Bool) ⊕ (List Int)) (o : Out) : Prop := match w with
  | .inl e => o = f12_broughamlaw43_VarintBack_out e
  | .inr e => At Go.Proofs.Try.prog Go.Proofs.Try.f12 0 19 ⟨[(1, .one (.c (.d (.sl (.int .u8) e))))], [], [], 0⟩ o
theorem f12_broughamlaw43_VarintBack_L15_ok (n : Nat) : ∀ (l : List Int) (b : List Int) (y : List Int) (i : Int) (w : (Bool) ⊕ (List Int)) (h : f12_broughamlaw43_VarintBack_L15 n l b y i = some w) (o : Out) (hk : f12_broughamlaw43_VarintBack_L15_k w o), At Go.Proofs.Try.prog Go.Proofs.Try.f12 0 15 ⟨[(0, .one (.c (.d (.sl (.int .i64) l)))), (1, .one (.c (.d (.sl (.int .u8) b)))), (9, .one (.c (.own 0 (.int .i64) y))), (11, .one (.c (.d (.int .i64 i))))], [(0, some ⟨2, 0⟩)], [], 1⟩ o := by
  induction n with
  | zero => intro l b y i w h; rw [f12_broughamlaw43_VarintBack_L15] at h; cases h
  | succ n ih =>
    intro l b y i w h o hk
    rw [f12_broughamlaw43_VarintBack_L15] at h
    rcases iteS h with ⟨b288_e0, h⟩ | ⟨b288_e0, h⟩
    · refine At.step hm ht ⟨[], [true], [], [0, 1, 9, 11], [0]⟩ 17 ⟨[(0, .one (.c (.d (.sl (.int .i64) l)))), (1, .one (.c (.d (.sl (.int .u8) b)))), (9, .one (.c (.own 0 (.int .i64) y))), (11, .one (.c (.d (.int .i64 i))))], [(0, some ⟨2, 0⟩)], [], 1⟩ [(decide ((i : Int) < ((l.length : Nat) : Int))) = true] (by kernel_rfl) ⟨b288_e0, trivial⟩ ?_
      obtain ⟨g289_0, h⟩ := ifS h
      obtain ⟨g289_1, h⟩ := ifS h
      rcases iteS h with ⟨b289_e0, h⟩ | ⟨b289_e0, h⟩
      · refine At.step hm ht ⟨[], [true], [], [], []⟩ 18 ⟨[], [], [], 0⟩ [(0 : Int) ≤ i ∧ i < (((y).length : Nat) : Int), (0 : Int) ≤ i ∧ i < (((l).length : Nat) : Int), (((y.getD i.toNat 0) : Int) != (l.getD i.toNat 0)) = true] (by kernel_rfl) ⟨g289_0, g289_1, b289_e0, trivial⟩ ?_
        have h := Option.some.inj h
        subst h
        have hk : o = f12_broughamlaw43_VarintBack_out false := hk
        subst hk
        exact At.fin hm ht ⟨[], [], [], [4], []⟩ [] (by kernel_rfl) trivial
      · refine At.step hm ht ⟨[], [false], [], [0, 1, 9, 11], [0]⟩ 16 ⟨[(0, .one (.c (.d (.sl (.int .i64) l)))), (1, .one (.c (.d (.sl (.int .u8) b)))), (9, .one (.c (.own 0 (.int .i64) y))), (11, .one (.c (.d (.int .i64 i))))], [(0, some ⟨2, 0⟩)], [], 1⟩ [(0 : Int) ≤ i ∧ i < (((y).length : Nat) : Int), (0 : Int) ≤ i ∧ i < (((l).length : Nat) : Int), (((y.getD i.toNat 0) : Int) != (l.getD i.toNat 0)) = false] (by kernel_rfl) ⟨g289_0, g289_1, b289_e0, trivial⟩ ?_
        refine At.step hm ht ⟨[], [], [], [0, 1, 9, 11], [0]⟩ 15 ⟨[(0, .one (.c (.d (.sl (.int .i64) l)))), (1, .one (.c (.d (.sl (.int .u8) b)))), (9, .one (.c (.own 0 (.int .i64) y))), (11, .one (.c (.d (.int .i64 (IntKind.wrap .i64 (i + 1))))))], [(0, some ⟨2, 0⟩)], [], 1⟩ [] (by kernel_rfl) trivial ?_
        exact ih l b y (IntKind.wrap .i64 (i + 1)) w h o hk
    · refine At.step hm ht ⟨[], [false], [], [1], []⟩ 19 ⟨[(1, .one (.c (.d (.sl (.int .u8) b))))], [], [], 0⟩ [(decide ((i : Int) < ((l.length : Nat) : Int))) = false] (by kernel_rfl) ⟨b288_e0, trivial⟩ ?_
      have h := Option.some.inj h
      subst h
      exact hk
def f12_broughamlaw43_VarintBack (n : Nat) (l : List Int) (b : List Int) : Option (Bool) :=
  if (decide ((((l.length : Nat) : Int) : Int) > 200)) = true then
    some true
  else
    if (decide ((((b.length : Nat) : Int) : Int) > 2000)) = true then
      some true
    else
      (f12_broughamlaw43_VarintBack_L5 n l b [] 0).bind fun w214 =>
      match w214 with
      | .inl e215 =>
        some e215
      | .inr e216 =>
        (f22_varint_Put n [] e216.2.2).bind fun r217_0 =>
        (f26_varint_All n r217_0).bind fun r217_1 =>
        (f65_varint_Deltas n e216.1).bind fun r218_0 =>
        (f64_varint_Undeltas n r218_0).bind fun r218_1 =>
        if (!r217_1.2) = true then
          some false
        else
          (f28_broughamlaw43_row n r217_1.1 e216.2.2).bind fun r282_0 =>
          if (!r282_0) = true then
            some false
          else
            if (!r218_1.2) = true then
              some false
            else
              if ((((r218_1.1.length : Nat) : Int) : Int) != ((e216.1.length : Nat) : Int)) = true then
                some false
              else
                (f12_broughamlaw43_VarintBack_L15 n e216.1 e216.2.1 r218_1.1 0).bind fun w292 =>
                match w292 with
                | .inl e293 =>
                  some e293
                | .inr e294 =>
                  (f64_varint_Undeltas n e294).bind fun r295_0 =>
                  (f26_varint_All n e294).bind fun r296_0 =>
                  if (r295_0.2 == r296_0.2) = true then
                    if (!r295_0.2) = true then
                      (f23_broughamlaw43_alive n).bind fun r297_0 =>
                      some r297_0
                    else
                      (f65_varint_Deltas n r295_0.1).bind fun r297_0 =>
                      if ((strOfNums r297_0).toList == (strOfNums e294).toList) = true then
                        (f22_varint_Put n [] r296_0.1).bind fun r297_1 =>
                        if ((strOfNums r297_1).toList == (strOfNums e294).toList) = true then
                          (f23_broughamlaw43_alive n).bind fun r297_2 =>
                          some r297_2
                        else
                          some false
                      else
                        some false
                  else
                    some false
theorem f12_broughamlaw43_VarintBack_ok (n : Nat) (l : List Int) (b : List Int) (r : Bool) (h : f12_broughamlaw43_VarintBack n l b = some r) : FnOK Go.Proofs.Try.prog 12 (f12_broughamlaw43_VarintBack_in l b) (f12_broughamlaw43_VarintBack_out r) := by
  unfold f12_broughamlaw43_VarintBack at h
  refine At.fn (r := 0) Go.Proofs.Try.func12 rfl (by kernel_rfl) rfl rfl (by kernel_rfl) ?_
  show At Go.Proofs.Try.prog Go.Proofs.Try.f12 0 0 ⟨[(0, .one (.c (.d (.sl (.int .i64) l)))), (1, .one (.c (.d (.sl (.int .u8) b))))], [], [], 0⟩ _
  refine At.step hm ht ⟨[], [], [], [0, 1], []⟩ 1 ⟨[(0, .one (.c (.d (.sl (.int .i64) l)))), (1, .one (.c (.d (.sl (.int .u8) b))))], [], [], 0⟩ [] (by kernel_rfl) trivial ?_
  rcases iteS h with ⟨b202_3, h⟩ | ⟨b202_3, h⟩
  · refine At.step hm ht ⟨[(3, .b true)], [true], [], [], []⟩ 2 ⟨[], [], [], 0⟩ [(decide ((((l.length : Nat) : Int) : Int) > 200)) = true, true = true] (by kernel_rfl) ⟨b202_3, rfl, trivial⟩ ?_
    have h := Option.some.inj h
    subst h
    exact At.fin hm ht ⟨[], [], [], [4], []⟩ [] (by kernel_rfl) trivial
  · rcases iteS h with ⟨b202_e0, h⟩ | ⟨b202_e0, h⟩
    · refine At.step hm ht ⟨[(3, .b false)], [true], [], [], []⟩ 2 ⟨[], [], [], 0⟩ [(decide ((((l.length : Nat) : Int) : Int) > 200)) = false, (decide ((((b.length : Nat) : Int) : Int) > 2000)) = true] (by kernel_rfl) ⟨b202_3, b202_e0, trivial⟩ ?_
      have h := Option.some.inj h
      subst h
      exact At.fin hm ht ⟨[], [], [], [4], []⟩ [] (by kernel_rfl) trivial
    · refine At.step hm ht ⟨[(3, .b false)], [false], [], [0, 1], []⟩ 3 ⟨[(0, .one (.c (.d (.sl (.int .i64) l)))), (1, .one (.c (.d (.sl (.int .u8) b))))], [], [], 0⟩ [(decide ((((l.length : Nat) : Int) : Int) > 200)) = false, (decide ((((b.length : Nat) : Int) : Int) > 2000)) = false] (by kernel_rfl) ⟨b202_3, b202_e0, trivial⟩ ?_
      refine At.step hm ht ⟨[], [], [], [0, 1, 5], []⟩ 4 ⟨[(0, .one (.c (.d (.sl (.int .i64) l)))), (1, .one (.c (.d (.sl (.int .u8) b)))), (5, .one (.c (.d (.sl .unit []))))], [], [], 0⟩ [] (by kernel_rfl) trivial ?_
      refine At.step hm ht ⟨[], [], [.nil false 5 0 (.int .u64) (some 37)], [0, 1, 5, 6], [1]⟩ 5 ⟨[(0, .one (.c (.d (.sl (.int .i64) l)))), (1, .one (.c (.d (.sl (.int .u8) b)))), (5, .one (.c (.own 0 (.int .u64) []))), (6, .one (.c (.d (.int .i64 0))))], [(0, some ⟨37, 0⟩)], [], 1⟩ [] (by kernel_rfl) trivial ?_
      obtain ⟨w214, cw214, h⟩ := bindS h
      refine f12_broughamlaw43_VarintBack_L5_ok n l b [] 0 w214 cw214 _ ?_
      rcases w214 with e215 | e216
      · have h := Option.some.inj h
        subst h
        rfl
      · show At Go.Proofs.Try.prog Go.Proofs.Try.f12 0 10 ⟨[(0, .one (.c (.d (.sl (.int .i64) e216.1)))), (1, .one (.c (.d (.sl (.int .u8) e216.2.1)))), (5, .one (.c (.own 0 (.int .u64) e216.2.2)))], [(0, some ⟨37, 0⟩)], [], 1⟩ _
        obtain ⟨r217_0, cr217_0, h⟩ := bindS h
        obtain ⟨r217_1, cr217_1, h⟩ := bindS h
        refine At.step hm ht ⟨[(1, .call [] [(0, 0, (.int .u8))] (f22_varint_Put_out r217_0)), (2, .call [] [] (f26_varint_All_out r217_1))], [], [], [0, 1, 5, 7, 8], [0, 3]⟩ 11 ⟨[(0, .one (.c (.d (.sl (.int .i64) e216.1)))), (1, .one (.c (.d (.sl (.int .u8) e216.2.1)))), (5, .one (.c (.own 0 (.int .u64) e216.2.2))), (7, .one (.c (.own 1 (.int .u64) r217_1.1))), (8, .one (.c (.d (.bool r217_1.2))))], [(0, some ⟨37, 0⟩), (1, some ⟨37, 0⟩)], [], 2⟩ [FnOK Go.Proofs.Try.prog 22 (f22_varint_Put_in [] e216.2.2) (f22_varint_Put_out r217_0), FnOK Go.Proofs.Try.prog 26 (f26_varint_All_in r217_0) (f26_varint_All_out r217_1)] (by kernel_rfl) ⟨(f22_varint_Put_ok n [] e216.2.2 r217_0 cr217_0), (f26_varint_All_ok n r217_0 r217_1 cr217_1), trivial⟩ ?_
        obtain ⟨r218_0, cr218_0, h⟩ := bindS h
        obtain ⟨r218_1, cr218_1, h⟩ := bindS h
        refine At.step hm ht ⟨[(1, .call [] [] (f65_varint_Deltas_out r218_0)), (2, .call [] [] (f64_varint_Undeltas_out r218_1))], [], [], [0, 1, 5, 7, 8, 9, 10], [0, 1, 4]⟩ 12 ⟨[(0, .one (.c (.d (.sl (.int .i64) e216.1)))), (1, .one (.c (.d (.sl (.int .u8) e216.2.1)))), (5, .one (.c (.own 0 (.int .u64) e216.2.2))), (7, .one (.c (.own 1 (.int .u64) r217_1.1))), (8, .one (.c (.d (.bool r217_1.2)))), (9, .one (.c (.own 2 (.int .i64) r218_1.1))), (10, .one (.c (.d (.bool r218_1.2))))], [(0, some ⟨37, 0⟩), (1, some ⟨37, 0⟩), (2, some ⟨2, 0⟩)], [], 3⟩ [FnOK Go.Proofs.Try.prog 65 (f65_varint_Deltas_in e216.1) (f65_varint_Deltas_out r218_0), FnOK Go.Proofs.Try.prog 64 (f64_varint_Undeltas_in r218_0) (f64_varint_Undeltas_out r218_1)] (by kernel_rfl) ⟨(f65_varint_Deltas_ok n e216.1 r218_0 cr218_0), (f64_varint_Undeltas_ok n r218_0 r218_1 cr218_1), trivial⟩ ?_
        rcases iteS h with ⟨b282_2, h⟩ | ⟨b282_2, h⟩
        · refine At.step hm ht ⟨[(2, .b true)], [true], [], [], []⟩ 13 ⟨[], [], [], 0⟩ [(!r217_1.2) = true, true = true] (by kernel_rfl) ⟨b282_2, rfl, trivial⟩ ?_
          have h := Option.some.inj h
          subst h
          exact At.fin hm ht ⟨[], [], [], [4], []⟩ [] (by kernel_rfl) trivial
        · obtain ⟨r282_0, cr282_0, h⟩ := bindS h
          rcases iteS h with ⟨b282_8, h⟩ | ⟨b282_8, h⟩
          · refine At.step hm ht ⟨[(2, .b false), (5, .call [] [] (f28_broughamlaw43_row_out r282_0)), (8, .b true)], [true], [], [], []⟩ 13 ⟨[], [], [], 0⟩ [(!r217_1.2) = false, FnOK Go.Proofs.Try.prog 28 (f28_broughamlaw43_row_in r217_1.1 e216.2.2) (f28_broughamlaw43_row_out r282_0), (!r282_0) = true, true = true] (by kernel_rfl) ⟨b282_2, (f28_broughamlaw43_row_ok n r217_1.1 e216.2.2 r282_0 cr282_0), b282_8, rfl, trivial⟩ ?_
            have h := Option.some.inj h
            subst h
            exact At.fin hm ht ⟨[], [], [], [4], []⟩ [] (by kernel_rfl) trivial
          · rcases iteS h with ⟨b282_12, h⟩ | ⟨b282_12, h⟩
            · refine At.step hm ht ⟨[(2, .b false), (5, .call [] [] (f28_broughamlaw43_row_out r282_0)), (8, .b false), (12, .b true)], [true], [], [], []⟩ 13 ⟨[], [], [], 0⟩ [(!r217_1.2) = false, FnOK Go.Proofs.Try.prog 28 (f28_broughamlaw43_row_in r217_1.1 e216.2.2) (f28_broughamlaw43_row_out r282_0), (!r282_0) = false, (!r218_1.2) = true, true = true] (by kernel_rfl) ⟨b282_2, (f28_broughamlaw43_row_ok n r217_1.1 e216.2.2 r282_0 cr282_0), b282_8, b282_12, rfl, trivial⟩ ?_
              have h := Option.some.inj h
              subst h
              exact At.fin hm ht ⟨[], [], [], [4], []⟩ [] (by kernel_rfl) trivial
            · rcases iteS h with ⟨b282_e0, h⟩ | ⟨b282_e0, h⟩
              · refine At.step hm ht ⟨[(2, .b false), (5, .call [] [] (f28_broughamlaw43_row_out r282_0)), (8, .b false), (12, .b false)], [true], [], [], []⟩ 13 ⟨[], [], [], 0⟩ [(!r217_1.2) = false, FnOK Go.Proofs.Try.prog 28 (f28_broughamlaw43_row_in r217_1.1 e216.2.2) (f28_broughamlaw43_row_out r282_0), (!r282_0) = false, (!r218_1.2) = false, ((((r218_1.1.length : Nat) : Int) : Int) != ((e216.1.length : Nat) : Int)) = true] (by kernel_rfl) ⟨b282_2, (f28_broughamlaw43_row_ok n r217_1.1 e216.2.2 r282_0 cr282_0), b282_8, b282_12, b282_e0, trivial⟩ ?_
                have h := Option.some.inj h
                subst h
                exact At.fin hm ht ⟨[], [], [], [4], []⟩ [] (by kernel_rfl) trivial
              · refine At.step hm ht ⟨[(2, .b false), (5, .call [] [] (f28_broughamlaw43_row_out r282_0)), (8, .b false), (12, .b false)], [false], [], [0, 1, 9], [2]⟩ 14 ⟨[(0, .one (.c (.d (.sl (.int .i64) e216.1)))), (1, .one (.c (.d (.sl (.int .u8) e216.2.1)))), (9, .one (.c (.own 0 (.int .i64) r218_1.1)))], [(0, some ⟨2, 0⟩)], [], 1⟩ [(!r217_1.2) = false, FnOK Go.Proofs.Try.prog 28 (f28_broughamlaw43_row_in r217_1.1 e216.2.2) (f28_broughamlaw43_row_out r282_0), (!r282_0) = false, (!r218_1.2) = false, ((((r218_1.1.length : Nat) : Int) : Int) != ((e216.1.length : Nat) : Int)) = false] (by kernel_rfl) ⟨b282_2, (f28_broughamlaw43_row_ok n r217_1.1 e216.2.2 r282_0 cr282_0), b282_8, b282_12, b282_e0, trivial⟩ ?_
                refine At.step hm ht ⟨[], [], [], [0, 1, 9, 11], [0]⟩ 15 ⟨[(0, .one (.c (.d (.sl (.int .i64) e216.1)))), (1, .one (.c (.d (.sl (.int .u8) e216.2.1)))), (9, .one (.c (.own 0 (.int .i64) r218_1.1))), (11, .one (.c (.d (.int .i64 0))))], [(0, some ⟨2, 0⟩)], [], 1⟩ [] (by kernel_rfl) trivial ?_
                obtain ⟨w292, cw292, h⟩ := bindS h
                refine f12_broughamlaw43_VarintBack_L15_ok n e216.1 e216.2.1 r218_1.1 0 w292 cw292 _ ?_
                rcases w292 with e293 | e294
                · have h := Option.some.inj h
                  subst h
                  rfl
                · show At Go.Proofs.Try.prog Go.Proofs.Try.f12 0 19 ⟨[(1, .one (.c (.d (.sl (.int .u8) e294))))], [], [], 0⟩ _
                  obtain ⟨r295_0, cr295_0, h⟩ := bindS h
                  refine At.step hm ht ⟨[(1, .call [] [] (f64_varint_Undeltas_out r295_0))], [], [], [1, 12, 13], [1]⟩ 20 ⟨[(1, .one (.c (.d (.sl (.int .u8) e294)))), (12, .one (.c (.own 0 (.int .i64) r295_0.1))), (13, .one (.c (.d (.bool r295_0.2))))], [(0, some ⟨2, 0⟩)], [], 1⟩ [FnOK Go.Proofs.Try.prog 64 (f64_varint_Undeltas_in e294) (f64_varint_Undeltas_out r295_0)] (by kernel_rfl) ⟨(f64_varint_Undeltas_ok n e294 r295_0 cr295_0), trivial⟩ ?_
                  obtain ⟨r296_0, cr296_0, h⟩ := bindS h
                  refine At.step hm ht ⟨[(1, .call [] [] (f26_varint_All_out r296_0))], [], [], [1, 12, 13, 14, 15], [0, 2]⟩ 21 ⟨[(1, .one (.c (.d (.sl (.int .u8) e294)))), (12, .one (.c (.own 0 (.int .i64) r295_0.1))), (13, .one (.c (.d (.bool r295_0.2)))), (14, .one (.c (.own 1 (.int .u64) r296_0.1))), (15, .one (.c (.d (.bool r296_0.2))))], [(0, some ⟨2, 0⟩), (1, some ⟨37, 0⟩)], [], 2⟩ [FnOK Go.Proofs.Try.prog 26 (f26_varint_All_in e294) (f26_varint_All_out r296_0)] (by kernel_rfl) ⟨(f26_varint_All_ok n e294 r296_0 cr296_0), trivial⟩ ?_
                  rcases iteS h with ⟨b297_3, h⟩ | ⟨b297_3, h⟩
                  · rcases iteS h with ⟨b297_6, h⟩ | ⟨b297_6, h⟩
                    · obtain ⟨r297_0, cr297_0, h⟩ := bindS h
                      have h := Option.some.inj h
                      subst h
                      exact At.fin hm ht ⟨[(3, .b true), (6, .b true), (24, .call [] [] (f23_broughamlaw43_alive_out r297_0))], [], [], [4], []⟩ [(r295_0.2 == r296_0.2) = true, (!r295_0.2) = true, FnOK Go.Proofs.Try.prog 23 (f23_broughamlaw43_alive_in) (f23_broughamlaw43_alive_out r297_0)] (by kernel_rfl) ⟨b297_3, b297_6, (f23_broughamlaw43_alive_ok n r297_0 cr297_0), trivial⟩
                    · obtain ⟨r297_0, cr297_0, h⟩ := bindS h
                      rcases iteS h with ⟨b297_13, h⟩ | ⟨b297_13, h⟩
                      · obtain ⟨r297_1, cr297_1, h⟩ := bindS h
                        rcases iteS h with ⟨b297_23, h⟩ | ⟨b297_23, h⟩
                        · obtain ⟨r297_2, cr297_2, h⟩ := bindS h
                          have h := Option.some.inj h
                          subst h
                          exact At.fin hm ht ⟨[(3, .b true), (6, .b false), (8, .call [] [] (f65_varint_Deltas_out r297_0)), (13, .b true), (15, .call [] [(0, 0, (.int .u8))] (f22_varint_Put_out r297_1)), (23, .b true), (24, .call [] [] (f23_broughamlaw43_alive_out r297_2))], [], [], [4], []⟩ [(r295_0.2 == r296_0.2) = true, (!r295_0.2) = false, FnOK Go.Proofs.Try.prog 65 (f65_varint_Deltas_in r295_0.1) (f65_varint_Deltas_out r297_0), ((strOfNums r297_0).toList == (strOfNums e294).toList) = true, FnOK Go.Proofs.Try.prog 22 (f22_varint_Put_in [] r296_0.1) (f22_varint_Put_out r297_1), ((strOfNums r297_1).toList == (strOfNums e294).toList) = true, FnOK Go.Proofs.Try.prog 23 (f23_broughamlaw43_alive_in) (f23_broughamlaw43_alive_out r297_2)] (by kernel_rfl) ⟨b297_3, b297_6, (f65_varint_Deltas_ok n r295_0.1 r297_0 cr297_0), b297_13, (f22_varint_Put_ok n [] r296_0.1 r297_1 cr297_1), b297_23, (f23_broughamlaw43_alive_ok n r297_2 cr297_2), trivial⟩
                        · have h := Option.some.inj h
                          subst h
                          exact At.fin hm ht ⟨[(3, .b true), (6, .b false), (8, .call [] [] (f65_varint_Deltas_out r297_0)), (13, .b true), (15, .call [] [(0, 0, (.int .u8))] (f22_varint_Put_out r297_1)), (23, .b false)], [], [], [4], []⟩ [(r295_0.2 == r296_0.2) = true, (!r295_0.2) = false, FnOK Go.Proofs.Try.prog 65 (f65_varint_Deltas_in r295_0.1) (f65_varint_Deltas_out r297_0), ((strOfNums r297_0).toList == (strOfNums e294).toList) = true, FnOK Go.Proofs.Try.prog 22 (f22_varint_Put_in [] r296_0.1) (f22_varint_Put_out r297_1), ((strOfNums r297_1).toList == (strOfNums e294).toList) = false] (by kernel_rfl) ⟨b297_3, b297_6, (f65_varint_Deltas_ok n r295_0.1 r297_0 cr297_0), b297_13, (f22_varint_Put_ok n [] r296_0.1 r297_1 cr297_1), b297_23, trivial⟩
                      · have h := Option.some.inj h
                        subst h
                        exact At.fin hm ht ⟨[(3, .b true), (6, .b false), (8, .call [] [] (f65_varint_Deltas_out r297_0)), (13, .b false)], [], [], [4], []⟩ [(r295_0.2 == r296_0.2) = true, (!r295_0.2) = false, FnOK Go.Proofs.Try.prog 65 (f65_varint_Deltas_in r295_0.1) (f65_varint_Deltas_out r297_0), ((strOfNums r297_0).toList == (strOfNums e294).toList) = false] (by kernel_rfl) ⟨b297_3, b297_6, (f65_varint_Deltas_ok n r295_0.1 r297_0 cr297_0), b297_13, trivial⟩
                  · have h := Option.some.inj h
                    subst h
                    exact At.fin hm ht ⟨[(3, .b false)], [], [], [4], []⟩ [(r295_0.2 == r296_0.2) = false] (by kernel_rfl) ⟨b297_3, trivial⟩
end Go.Proofs.YtjimlfjhhmdcdaaF43
