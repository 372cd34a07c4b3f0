/- What the functions compute, and that they do: printed by a program of this session (zgen.py), proved by Zed. -/
import Derived.Test.YtjoibacjpapncaaProg
import Derived.Test.YtjoibacjpapncaaZedYa
namespace Go.Proofs.YtjoibacjpapncaaF31
open Go Zed
set_option maxRecDepth 100000
set_option linter.unusedVariables false
def tab : Tab := [(3, ⟨.int .i64, 1, 8, [.int .i64 0], some (.int .i64), none⟩), (4, ⟨.bool, 1, 1, [.bool false], some .bool, none⟩), (5, ⟨.int .u8, 1, 1, [.int .u8 0], some (.int .u8), none⟩), (9, ⟨.str, 1, 16, [.str (⟨#[]⟩ : ByteArray)], some .str, none⟩), (21, ⟨.int .i32, 1, 4, [.int .i32 0], some (.int .i32), none⟩), (22, ⟨.int .u64, 1, 8, [.int .u64 0], some (.int .u64), none⟩), (26, ⟨.int .u32, 1, 4, [.int .u32 0], some (.int .u32), none⟩), (38, ⟨.slice 5, 1, 24, [.sl .unit []], some (.slice (.int .u8)), none⟩), (55, ⟨.ptr 151, 1, 8, [.nilP], none, none⟩), (67, ⟨.slice 161, 1, 24, [.sl .unit []], some (.slice (.pair (.int .u32) (.int .u32))), none⟩), (69, ⟨.slice 160, 1, 24, [.sl .unit []], some (.slice (.pair (.int .u32) (.int .u32))), none⟩), (73, ⟨.struct [(0, 5), (1, 38)], 2, 32, [.int .u8 0, .sl .unit []], some (.pair (.int .u8) (.slice (.int .u8))), some [(0, 5), (1, 38)]⟩), (110, ⟨.slice 3, 1, 24, [.sl .unit []], some (.slice (.int .i64)), none⟩), (139, ⟨.struct [(0, 3), (1, 22)], 2, 16, [.int .i64 0, .int .u64 0], some (.pair (.int .i64) (.int .u64)), some [(0, 3), (1, 22)]⟩), (144, ⟨.slice 22, 1, 24, [.sl .unit []], some (.slice (.int .u64)), none⟩), (151, ⟨.struct [(0, 26), (1, 3), (2, 69)], 3, 40, [.int .u32 0, .int .i64 0, .sl .unit []], some (.pair (.int .u32) (.pair (.int .i64) (.slice (.pair (.int .u32) (.int .u32))))), some [(0, 26), (1, 3), (2, 69)]⟩), (160, ⟨.struct [(0, 26), (1, 26)], 2, 8, [.int .u32 0, .int .u32 0], some (.pair (.int .u32) (.int .u32)), some [(0, 26), (1, 26)]⟩), (161, ⟨.struct [(0, 26), (1, 26)], 2, 8, [.int .u32 0, .int .u32 0], some (.pair (.int .u32) (.int .u32)), some [(0, 26), (1, 26)]⟩), (221, ⟨.slice 139, 1, 24, [.sl .unit []], some (.slice (.pair (.int .i64) (.int .u64))), none⟩)]
theorem ht : TabOk Go.Proofs.Try.prog tab := tabOk_of (ts := [3, 4, 5, 9, 21, 22, 26, 38, 55, 67, 69, 73, 110, 139, 144, 151, 160, 161, 221]) (by kernel_rfl)
theorem hm : Go.Proofs.Try.prog.follows .mixedOrders = true := by kernel_rfl
/-! brougham/serial.Diff -/
def f89_serial_Diff_in (a : Int) (b : Int) : Inn := ⟨[.c (.d (.int .u32 a)), .c (.d (.int .u32 b))], [], [], 0⟩
def f89_serial_Diff_out (r : Int) : Out := ⟨.one (.c (.d (.int .i64 r))), [], [], 0⟩
def f89_serial_Diff (a : Int) (b : Int) : Option (Int) :=
  some (IntKind.wrap .i64 (IntKind.wrap .i32 (IntKind.wrap .u32 (a - b))))
theorem f89_serial_Diff_ok (a : Int) (b : Int) (r : Int) (h : f89_serial_Diff a b = some r) : FnOK Go.Proofs.Try.prog 89 (f89_serial_Diff_in a b) (f89_serial_Diff_out r) := by
  unfold f89_serial_Diff at h
  refine At.fn (r := 0) Go.Proofs.Try.func89 rfl (by kernel_rfl) rfl rfl (by kernel_rfl) ?_
  show At Go.Proofs.Try.prog Go.Proofs.Try.f89 0 0 ⟨[(0, .one (.c (.d (.int .u32 a)))), (1, .one (.c (.d (.int .u32 b))))], [], [], 0⟩ _
  refine At.step hm ht ⟨[], [], [], [0, 1], []⟩ 1 ⟨[(0, .one (.c (.d (.int .u32 a)))), (1, .one (.c (.d (.int .u32 b))))], [], [], 0⟩ [] (by kernel_rfl) trivial ?_
  have h := Option.some.inj h
  subst h
  exact At.fin hm ht ⟨[], [], [], [4], []⟩ [] (by kernel_rfl) trivial
/-! brougham/sack.Right -/
def f47_sack_Right_in (wait : Int) (l : List (Int × Int)) : Inn := ⟨[.c (.d (.int .u32 wait)), .c (.d (.sl (.pair (.int .u32) (.int .u32)) l))], [], [], 0⟩
def f47_sack_Right_out (r : Bool) : Out := ⟨.one (.c (.d (.bool r))), [], [], 0⟩
def f47_sack_Right_L5 : Nat → Int → Int → (List (Int × Int)) → Int → Int → Option ((Bool) ⊕ (Unit))
  | 0, _, _, _, _, _ => none
  | n + 1, wait, last, t12, t13, t14 =>
    if (decide ((t14 : Int) < t13)) = true then
      if (0 : Int) ≤ t14 ∧ t14 < (((t12).length : Nat) : Int) then
      (f89_serial_Diff ((t12.getD t14.toNat (0, 0)).1) last).bind fun r15_0 =>
      if (decide ((r15_0 : Int) ≤ 0)) = true then
        some (.inl false)
      else
        (f89_serial_Diff ((t12.getD t14.toNat (0, 0)).2) ((t12.getD t14.toNat (0, 0)).1)).bind fun r15_1 =>
        if (decide ((r15_1 : Int) ≤ 0)) = true then
          some (.inl false)
        else
          (f89_serial_Diff ((t12.getD t14.toNat (0, 0)).2) wait).bind fun r15_2 =>
          if (decide ((r15_2 : Int) ≤ 0)) = true then
            some (.inl false)
          else
            f47_sack_Right_L5 n wait ((t12.getD t14.toNat (0, 0)).2) t12 t13 (IntKind.wrap .i64 (t14 + 1))
      else none
    else
      some (.inr ())
def f47_sack_Right_L5_k (w : (Bool) ⊕ (Unit)) (o : Out) : Prop := match w with
  | .inl e => o = f47_sack_Right_out e
  | .inr e => At Go.Proofs.Try.prog Go.Proofs.Try.f47 0 11 ⟨[], [], [], 0⟩ o
theorem f47_sack_Right_L5_ok (n : Nat) : ∀ (wait : Int) (last : Int) (t12 : List (Int × Int)) (t13 : Int) (t14 : Int) (w : (Bool) ⊕ (Unit)) (h : f47_sack_Right_L5 n wait last t12 t13 t14 = some w) (o : Out) (hk : f47_sack_Right_L5_k w o), At Go.Proofs.Try.prog Go.Proofs.Try.f47 0 5 ⟨[(0, .one (.c (.d (.int .u32 wait)))), (5, .one (.c (.d (.int .u32 last)))), (12, .one (.c (.d (.sl (.pair (.int .u32) (.int .u32)) t12)))), (13, .one (.c (.d (.int .i64 t13)))), (14, .one (.c (.d (.int .i64 t14))))], [], [], 0⟩ o := by
  induction n with
  | zero => intro wait last t12 t13 t14 w h; rw [f47_sack_Right_L5] at h; cases h
  | succ n ih =>
    intro wait last t12 t13 t14 w h o hk
    rw [f47_sack_Right_L5] at h
    rcases iteS h with ⟨b13_e0, h⟩ | ⟨b13_e0, h⟩
    · refine At.step hm ht ⟨[], [true], [], [0, 5, 12, 13, 14], []⟩ 6 ⟨[(0, .one (.c (.d (.int .u32 wait)))), (5, .one (.c (.d (.int .u32 last)))), (12, .one (.c (.d (.sl (.pair (.int .u32) (.int .u32)) t12)))), (13, .one (.c (.d (.int .i64 t13)))), (14, .one (.c (.d (.int .i64 t14))))], [], [], 0⟩ [(decide ((t14 : Int) < t13)) = true] (by kernel_rfl) ⟨b13_e0, trivial⟩ ?_
      obtain ⟨g14_0, h⟩ := ifS h
      refine At.step hm ht ⟨[], [], [], [0, 5, 7, 12, 13, 14], [2]⟩ 7 ⟨[(0, .one (.c (.d (.int .u32 wait)))), (5, .one (.c (.d (.int .u32 last)))), (7, .one (.c (.ptr 0 0))), (12, .one (.c (.d (.sl (.pair (.int .u32) (.int .u32)) t12)))), (13, .one (.c (.d (.int .i64 t13)))), (14, .one (.c (.d (.int .i64 t14))))], [], [(0, [.d (.int .u32 ((t12.getD t14.toNat (0, 0)).1)), .d (.int .u32 ((t12.getD t14.toNat (0, 0)).2))])], 1⟩ [(0 : Int) ≤ t14 ∧ t14 < (((t12).length : Nat) : Int), 0 + 2 ≤ 2] (by kernel_rfl) ⟨g14_0, (by decide), trivial⟩ ?_
      obtain ⟨r15_0, cr15_0, h⟩ := bindS h
      rcases iteS h with ⟨b15_5, h⟩ | ⟨b15_5, h⟩
      · refine At.step hm ht ⟨[(3, .call [] [] (f89_serial_Diff_out r15_0)), (5, .b true)], [true], [], [], []⟩ 8 ⟨[], [], [], 0⟩ [FnOK Go.Proofs.Try.prog 89 (f89_serial_Diff_in ((t12.getD t14.toNat (0, 0)).1) last) (f89_serial_Diff_out r15_0), (decide ((r15_0 : Int) ≤ 0)) = true, true = true] (by kernel_rfl) ⟨(f89_serial_Diff_ok ((t12.getD t14.toNat (0, 0)).1) last r15_0 cr15_0), b15_5, rfl, trivial⟩ ?_
        have h := Option.some.inj h
        subst h
        have hk : o = f47_sack_Right_out false := hk
        subst hk
        exact At.fin hm ht ⟨[], [], [], [4], []⟩ [] (by kernel_rfl) trivial
      · obtain ⟨r15_1, cr15_1, h⟩ := bindS h
        rcases iteS h with ⟨b15_13, h⟩ | ⟨b15_13, h⟩
        · refine At.step hm ht ⟨[(3, .call [] [] (f89_serial_Diff_out r15_0)), (5, .b false), (10, .call [] [] (f89_serial_Diff_out r15_1)), (13, .b true)], [true], [], [], []⟩ 8 ⟨[], [], [], 0⟩ [FnOK Go.Proofs.Try.prog 89 (f89_serial_Diff_in ((t12.getD t14.toNat (0, 0)).1) last) (f89_serial_Diff_out r15_0), (decide ((r15_0 : Int) ≤ 0)) = false, FnOK Go.Proofs.Try.prog 89 (f89_serial_Diff_in ((t12.getD t14.toNat (0, 0)).2) ((t12.getD t14.toNat (0, 0)).1)) (f89_serial_Diff_out r15_1), (decide ((r15_1 : Int) ≤ 0)) = true, true = true] (by kernel_rfl) ⟨(f89_serial_Diff_ok ((t12.getD t14.toNat (0, 0)).1) last r15_0 cr15_0), b15_5, (f89_serial_Diff_ok ((t12.getD t14.toNat (0, 0)).2) ((t12.getD t14.toNat (0, 0)).1) r15_1 cr15_1), b15_13, rfl, trivial⟩ ?_
          have h := Option.some.inj h
          subst h
          have hk : o = f47_sack_Right_out false := hk
          subst hk
          exact At.fin hm ht ⟨[], [], [], [4], []⟩ [] (by kernel_rfl) trivial
        · obtain ⟨r15_2, cr15_2, h⟩ := bindS h
          rcases iteS h with ⟨b15_e0, h⟩ | ⟨b15_e0, h⟩
          · refine At.step hm ht ⟨[(3, .call [] [] (f89_serial_Diff_out r15_0)), (5, .b false), (10, .call [] [] (f89_serial_Diff_out r15_1)), (13, .b false), (17, .call [] [] (f89_serial_Diff_out r15_2))], [true], [], [], []⟩ 8 ⟨[], [], [], 0⟩ [FnOK Go.Proofs.Try.prog 89 (f89_serial_Diff_in ((t12.getD t14.toNat (0, 0)).1) last) (f89_serial_Diff_out r15_0), (decide ((r15_0 : Int) ≤ 0)) = false, FnOK Go.Proofs.Try.prog 89 (f89_serial_Diff_in ((t12.getD t14.toNat (0, 0)).2) ((t12.getD t14.toNat (0, 0)).1)) (f89_serial_Diff_out r15_1), (decide ((r15_1 : Int) ≤ 0)) = false, FnOK Go.Proofs.Try.prog 89 (f89_serial_Diff_in ((t12.getD t14.toNat (0, 0)).2) wait) (f89_serial_Diff_out r15_2), (decide ((r15_2 : Int) ≤ 0)) = true] (by kernel_rfl) ⟨(f89_serial_Diff_ok ((t12.getD t14.toNat (0, 0)).1) last r15_0 cr15_0), b15_5, (f89_serial_Diff_ok ((t12.getD t14.toNat (0, 0)).2) ((t12.getD t14.toNat (0, 0)).1) r15_1 cr15_1), b15_13, (f89_serial_Diff_ok ((t12.getD t14.toNat (0, 0)).2) wait r15_2 cr15_2), b15_e0, trivial⟩ ?_
            have h := Option.some.inj h
            subst h
            have hk : o = f47_sack_Right_out false := hk
            subst hk
            exact At.fin hm ht ⟨[], [], [], [4], []⟩ [] (by kernel_rfl) trivial
          · refine At.step hm ht ⟨[(3, .call [] [] (f89_serial_Diff_out r15_0)), (5, .b false), (10, .call [] [] (f89_serial_Diff_out r15_1)), (13, .b false), (17, .call [] [] (f89_serial_Diff_out r15_2))], [false], [], [0, 7, 12, 13, 14], [0]⟩ 9 ⟨[(0, .one (.c (.d (.int .u32 wait)))), (7, .one (.c (.ptr 0 0))), (12, .one (.c (.d (.sl (.pair (.int .u32) (.int .u32)) t12)))), (13, .one (.c (.d (.int .i64 t13)))), (14, .one (.c (.d (.int .i64 t14))))], [], [(0, [.d (.int .u32 ((t12.getD t14.toNat (0, 0)).1)), .d (.int .u32 ((t12.getD t14.toNat (0, 0)).2))])], 1⟩ [FnOK Go.Proofs.Try.prog 89 (f89_serial_Diff_in ((t12.getD t14.toNat (0, 0)).1) last) (f89_serial_Diff_out r15_0), (decide ((r15_0 : Int) ≤ 0)) = false, FnOK Go.Proofs.Try.prog 89 (f89_serial_Diff_in ((t12.getD t14.toNat (0, 0)).2) ((t12.getD t14.toNat (0, 0)).1)) (f89_serial_Diff_out r15_1), (decide ((r15_1 : Int) ≤ 0)) = false, FnOK Go.Proofs.Try.prog 89 (f89_serial_Diff_in ((t12.getD t14.toNat (0, 0)).2) wait) (f89_serial_Diff_out r15_2), (decide ((r15_2 : Int) ≤ 0)) = false] (by kernel_rfl) ⟨(f89_serial_Diff_ok ((t12.getD t14.toNat (0, 0)).1) last r15_0 cr15_0), b15_5, (f89_serial_Diff_ok ((t12.getD t14.toNat (0, 0)).2) ((t12.getD t14.toNat (0, 0)).1) r15_1 cr15_1), b15_13, (f89_serial_Diff_ok ((t12.getD t14.toNat (0, 0)).2) wait r15_2 cr15_2), b15_e0, trivial⟩ ?_
            refine At.step hm ht ⟨[], [], [], [0, 5, 12, 13, 14], []⟩ 10 ⟨[(0, .one (.c (.d (.int .u32 wait)))), (5, .one (.c (.d (.int .u32 ((t12.getD t14.toNat (0, 0)).2))))), (12, .one (.c (.d (.sl (.pair (.int .u32) (.int .u32)) t12)))), (13, .one (.c (.d (.int .i64 t13)))), (14, .one (.c (.d (.int .i64 t14))))], [], [], 0⟩ [] (by kernel_rfl) trivial ?_
            refine At.step hm ht ⟨[], [], [], [0, 5, 12, 13, 14], []⟩ 5 ⟨[(0, .one (.c (.d (.int .u32 wait)))), (5, .one (.c (.d (.int .u32 ((t12.getD t14.toNat (0, 0)).2))))), (12, .one (.c (.d (.sl (.pair (.int .u32) (.int .u32)) t12)))), (13, .one (.c (.d (.int .i64 t13)))), (14, .one (.c (.d (.int .i64 (IntKind.wrap .i64 (t14 + 1))))))], [], [], 0⟩ [] (by kernel_rfl) trivial ?_
            exact ih wait ((t12.getD t14.toNat (0, 0)).2) t12 t13 (IntKind.wrap .i64 (t14 + 1)) w h o hk
    · refine At.step hm ht ⟨[], [false], [], [], []⟩ 11 ⟨[], [], [], 0⟩ [(decide ((t14 : Int) < t13)) = false] (by kernel_rfl) ⟨b13_e0, trivial⟩ ?_
      have h := Option.some.inj h
      subst h
      exact hk
def f47_sack_Right (n : Nat) (wait : Int) (l : List (Int × Int)) : Option (Bool) :=
  if (decide ((((l.length : Nat) : Int) : Int) > 4)) = true then
    some false
  else
    (f47_sack_Right_L5 n wait wait l ((l.length : Nat) : Int) 0).bind fun w23 =>
    match w23 with
    | .inl e24 =>
      some e24
    | .inr e25 =>
      some true
theorem f47_sack_Right_ok (n : Nat) (wait : Int) (l : List (Int × Int)) (r : Bool) (h : f47_sack_Right n wait l = some r) : FnOK Go.Proofs.Try.prog 47 (f47_sack_Right_in wait l) (f47_sack_Right_out r) := by
  unfold f47_sack_Right at h
  refine At.fn (r := 0) Go.Proofs.Try.func47 rfl (by kernel_rfl) rfl rfl (by kernel_rfl) ?_
  show At Go.Proofs.Try.prog Go.Proofs.Try.f47 0 0 ⟨[(0, .one (.c (.d (.int .u32 wait)))), (1, .one (.c (.d (.sl (.pair (.int .u32) (.int .u32)) l))))], [], [], 0⟩ _
  refine At.step hm ht ⟨[], [], [], [0, 1], []⟩ 1 ⟨[(0, .one (.c (.d (.int .u32 wait)))), (1, .one (.c (.d (.sl (.pair (.int .u32) (.int .u32)) l))))], [], [], 0⟩ [] (by kernel_rfl) trivial ?_
  rcases iteS h with ⟨b9_e0, h⟩ | ⟨b9_e0, h⟩
  · refine At.step hm ht ⟨[], [true], [], [], []⟩ 2 ⟨[], [], [], 0⟩ [(decide ((((l.length : Nat) : Int) : Int) > 4)) = true] (by kernel_rfl) ⟨b9_e0, trivial⟩ ?_
    have h := Option.some.inj h
    subst h
    exact At.fin hm ht ⟨[], [], [], [4], []⟩ [] (by kernel_rfl) trivial
  · refine At.step hm ht ⟨[], [false], [], [0, 1], []⟩ 3 ⟨[(0, .one (.c (.d (.int .u32 wait)))), (1, .one (.c (.d (.sl (.pair (.int .u32) (.int .u32)) l))))], [], [], 0⟩ [(decide ((((l.length : Nat) : Int) : Int) > 4)) = false] (by kernel_rfl) ⟨b9_e0, trivial⟩ ?_
    refine At.step hm ht ⟨[], [], [], [0, 1, 5], []⟩ 4 ⟨[(0, .one (.c (.d (.int .u32 wait)))), (1, .one (.c (.d (.sl (.pair (.int .u32) (.int .u32)) l)))), (5, .one (.c (.d (.int .u32 wait))))], [], [], 0⟩ [] (by kernel_rfl) trivial ?_
    refine At.step hm ht ⟨[], [], [], [0, 5, 12, 13, 14], []⟩ 5 ⟨[(0, .one (.c (.d (.int .u32 wait)))), (5, .one (.c (.d (.int .u32 wait)))), (12, .one (.c (.d (.sl (.pair (.int .u32) (.int .u32)) l)))), (13, .one (.c (.d (.int .i64 ((l.length : Nat) : Int))))), (14, .one (.c (.d (.int .i64 0))))], [], [], 0⟩ [] (by kernel_rfl) trivial ?_
    obtain ⟨w23, cw23, h⟩ := bindS h
    refine f47_sack_Right_L5_ok n wait wait l ((l.length : Nat) : Int) 0 w23 cw23 _ ?_
    rcases w23 with e24 | e25
    · have h := Option.some.inj h
      subst h
      rfl
    · show At Go.Proofs.Try.prog Go.Proofs.Try.f47 0 11 ⟨[], [], [], 0⟩ _
      have h := Option.some.inj h
      subst h
      exact At.fin hm ht ⟨[], [], [], [4], []⟩ [] (by kernel_rfl) trivial
/-! brougham/pack.W -/
def f79_pack_W_in (n_ : Int) : Inn := ⟨[.c (.d (.int .u32 n_))], [], [], 0⟩
def f79_pack_W_out (r : Int × Int) : Out := ⟨.one (.agg [.d (.int .i64 r.1), .d (.int .u64 r.2)]), [], [(0, [.d (.int .i64 r.1), .d (.int .u64 r.2)])], 1⟩
def f79_pack_W (n_ : Int) : Option (Int × Int) :=
  some (4, (IntKind.wrap .u64 n_))
theorem f79_pack_W_ok (n_ : Int) (r : Int × Int) (h : f79_pack_W n_ = some r) : FnOK Go.Proofs.Try.prog 79 (f79_pack_W_in n_) (f79_pack_W_out r) := by
  unfold f79_pack_W at h
  refine At.fn (r := 0) Go.Proofs.Try.func79 rfl (by kernel_rfl) rfl rfl (by kernel_rfl) ?_
  show At Go.Proofs.Try.prog Go.Proofs.Try.f79 0 0 ⟨[(0, .one (.c (.d (.int .u32 n_))))], [], [], 0⟩ _
  refine At.step hm ht ⟨[], [], [], [0, 2], [0]⟩ 1 ⟨[(0, .one (.c (.d (.int .u32 n_)))), (2, .one (.c (.ptr 0 0)))], [], [(0, [.d (.int .i64 0), .d (.int .u64 0)])], 1⟩ [] (by kernel_rfl) trivial ?_
  have h := Option.some.inj h
  subst h
  exact At.fin hm ht ⟨[], [], [], [2], [0]⟩ [0 + 2 ≤ 2] (by kernel_rfl) ⟨(by decide), trivial⟩
/-! brougham/pack.Put -/
def f78_pack_Put_in (b : List Int) (l : List (Int × Int)) : Inn := ⟨[.c (.d (.sl (.int .u8) b)), .c (.d (.sl (.pair (.int .i64) (.int .u64)) l))], [], [], 0⟩
def f78_pack_Put_out (r : List Int) : Out := ⟨.one (.c (.own 0 (.int .u8) r)), [(0, ⟨5, 0⟩)], [], 1⟩
def f78_pack_Put_L7 : Nat → (List Int) → Int → (List (Int × Int)) → Int → Int → Int → Int → Option (List Int × (List (Int × Int)) × Int × Int)
  | 0, _, _, _, _, _, _, _ => none
  | n + 1, out, i, t11, t12, t13, f_0, f_1 =>
    if (decide ((i : Int) ≥ 0)) = true then
      if (0 : Int) ≤ (IntKind.wrap .i64 (8 * i)) then
      if out.length + [(IntKind.wrap .u8 (Int.fdiv f_1 (2 ^ (min (IntKind.wrap .i64 (8 * i)).toNat (IntKind.bits .u64)))))].length ≤ maxLen ∧ (out.length + [(IntKind.wrap .u8 (Int.fdiv f_1 (2 ^ (min (IntKind.wrap .i64 (8 * i)).toNat (IntKind.bits .u64)))))].length) * 1 ≤ 140737488355328 then
      f78_pack_Put_L7 n (out ++ [(IntKind.wrap .u8 (Int.fdiv f_1 (2 ^ (min (IntKind.wrap .i64 (8 * i)).toNat (IntKind.bits .u64)))))]) (IntKind.wrap .i64 (i - 1)) t11 t12 t13 f_0 f_1
      else none
      else none
    else
      some ((out, t11, t12, t13))
def f78_pack_Put_L7_k (e : List Int × (List (Int × Int)) × Int × Int) (o : Out) : Prop := At Go.Proofs.Try.prog Go.Proofs.Try.f78 0 10 ⟨[(5, .one (.c (.own 0 (.int .u8) e.1))), (11, .one (.c (.d (.sl (.pair (.int .i64) (.int .u64)) e.2.1)))), (12, .one (.c (.d (.int .i64 e.2.2.1)))), (13, .one (.c (.d (.int .i64 e.2.2.2))))], [(0, some ⟨5, 0⟩)], [], 1⟩ o
theorem f78_pack_Put_L7_ok (n : Nat) : ∀ (out : List Int) (i : Int) (t11 : List (Int × Int)) (t12 : Int) (t13 : Int) (f_0 : Int) (f_1 : Int) (w : List Int × (List (Int × Int)) × Int × Int) (h : f78_pack_Put_L7 n out i t11 t12 t13 f_0 f_1 = some w) (o : Out) (hk : f78_pack_Put_L7_k w o), At Go.Proofs.Try.prog Go.Proofs.Try.f78 0 7 ⟨[(5, .one (.c (.own 0 (.int .u8) out))), (7, .one (.c (.ptr 1 0))), (8, .one (.c (.d (.int .i64 i)))), (11, .one (.c (.d (.sl (.pair (.int .i64) (.int .u64)) t11)))), (12, .one (.c (.d (.int .i64 t12)))), (13, .one (.c (.d (.int .i64 t13))))], [(0, some ⟨5, 0⟩)], [(1, [.d (.int .i64 f_0), .d (.int .u64 f_1)])], 2⟩ o := by
  induction n with
  | zero => intro out i t11 t12 t13 f_0 f_1 w h; rw [f78_pack_Put_L7] at h; cases h
  | succ n ih =>
    intro out i t11 t12 t13 f_0 f_1 w h o hk
    rw [f78_pack_Put_L7] at h
    rcases iteS h with ⟨b46_e0, h⟩ | ⟨b46_e0, h⟩
    · refine At.step hm ht ⟨[], [true], [], [5, 7, 8, 11, 12, 13], [0, 1]⟩ 9 ⟨[(5, .one (.c (.own 0 (.int .u8) out))), (7, .one (.c (.ptr 1 0))), (8, .one (.c (.d (.int .i64 i)))), (11, .one (.c (.d (.sl (.pair (.int .i64) (.int .u64)) t11)))), (12, .one (.c (.d (.int .i64 t12)))), (13, .one (.c (.d (.int .i64 t13))))], [(0, some ⟨5, 0⟩)], [(1, [.d (.int .i64 f_0), .d (.int .u64 f_1)])], 2⟩ [(decide ((i : Int) ≥ 0)) = true] (by kernel_rfl) ⟨b46_e0, trivial⟩ ?_
      obtain ⟨g47_0, h⟩ := ifS h
      obtain ⟨g47_1, h⟩ := ifS h
      refine At.step hm ht ⟨[], [], [], [5, 7, 8, 11, 12, 13], [10, 1]⟩ 8 ⟨[(5, .one (.c (.own 0 (.int .u8) (out ++ [(IntKind.wrap .u8 (Int.fdiv f_1 (2 ^ (min (IntKind.wrap .i64 (8 * i)).toNat (IntKind.bits .u64)))))])))), (7, .one (.c (.ptr 1 0))), (8, .one (.c (.d (.int .i64 i)))), (11, .one (.c (.d (.sl (.pair (.int .i64) (.int .u64)) t11)))), (12, .one (.c (.d (.int .i64 t12)))), (13, .one (.c (.d (.int .i64 t13))))], [(0, some ⟨5, 0⟩)], [(1, [.d (.int .i64 f_0), .d (.int .u64 f_1)])], 2⟩ [(0 : Int) ≤ (IntKind.wrap .i64 (8 * i)), out.length + [(IntKind.wrap .u8 (Int.fdiv f_1 (2 ^ (min (IntKind.wrap .i64 (8 * i)).toNat (IntKind.bits .u64)))))].length ≤ maxLen ∧ (out.length + [(IntKind.wrap .u8 (Int.fdiv f_1 (2 ^ (min (IntKind.wrap .i64 (8 * i)).toNat (IntKind.bits .u64)))))].length) * 1 ≤ 140737488355328] (by kernel_rfl) ⟨g47_0, g47_1, trivial⟩ ?_
      refine At.step hm ht ⟨[], [], [], [5, 7, 8, 11, 12, 13], [0, 1]⟩ 7 ⟨[(5, .one (.c (.own 0 (.int .u8) (out ++ [(IntKind.wrap .u8 (Int.fdiv f_1 (2 ^ (min (IntKind.wrap .i64 (8 * i)).toNat (IntKind.bits .u64)))))])))), (7, .one (.c (.ptr 1 0))), (8, .one (.c (.d (.int .i64 (IntKind.wrap .i64 (i - 1)))))), (11, .one (.c (.d (.sl (.pair (.int .i64) (.int .u64)) t11)))), (12, .one (.c (.d (.int .i64 t12)))), (13, .one (.c (.d (.int .i64 t13))))], [(0, some ⟨5, 0⟩)], [(1, [.d (.int .i64 f_0), .d (.int .u64 f_1)])], 2⟩ [] (by kernel_rfl) trivial ?_
      exact ih (out ++ [(IntKind.wrap .u8 (Int.fdiv f_1 (2 ^ (min (IntKind.wrap .i64 (8 * i)).toNat (IntKind.bits .u64)))))]) (IntKind.wrap .i64 (i - 1)) t11 t12 t13 f_0 f_1 w h o hk
    · refine At.step hm ht ⟨[], [false], [], [5, 11, 12, 13], [0]⟩ 10 ⟨[(5, .one (.c (.own 0 (.int .u8) out))), (11, .one (.c (.d (.sl (.pair (.int .i64) (.int .u64)) t11)))), (12, .one (.c (.d (.int .i64 t12)))), (13, .one (.c (.d (.int .i64 t13))))], [(0, some ⟨5, 0⟩)], [], 1⟩ [(decide ((i : Int) ≥ 0)) = false] (by kernel_rfl) ⟨b46_e0, trivial⟩ ?_
      have h := Option.some.inj h
      subst h
      exact hk
def f78_pack_Put_L3 : Nat → (List Int) → (List (Int × Int)) → Int → Int → Option (List Int)
  | 0, _, _, _, _ => none
  | n + 1, out, t11, t12, t13 =>
    if (decide ((t13 : Int) < t12)) = true then
      if (0 : Int) ≤ t13 ∧ t13 < (((t11).length : Nat) : Int) then
      if (decide ((((t11.getD t13.toNat (0, 0)).1) : Int) < 1)) = true then
        f78_pack_Put_L3 n out t11 t12 (IntKind.wrap .i64 (t13 + 1))
      else
        if (decide ((((t11.getD t13.toNat (0, 0)).1) : Int) > 8)) = true then
          f78_pack_Put_L3 n out t11 t12 (IntKind.wrap .i64 (t13 + 1))
        else
          (f78_pack_Put_L7 n out (IntKind.wrap .i64 (((t11.getD t13.toNat (0, 0)).1) - 1)) t11 t12 t13 ((t11.getD t13.toNat (0, 0)).1) ((t11.getD t13.toNat (0, 0)).2)).bind fun w49 =>
          f78_pack_Put_L3 n w49.1 w49.2.1 w49.2.2.1 (IntKind.wrap .i64 (w49.2.2.2 + 1))
      else none
    else
      some (out)
def f78_pack_Put_L3_k (e : List Int) (o : Out) : Prop := At Go.Proofs.Try.prog Go.Proofs.Try.f78 0 11 ⟨[(5, .one (.c (.own 0 (.int .u8) e)))], [(0, some ⟨5, 0⟩)], [], 1⟩ o
theorem f78_pack_Put_L3_ok (n : Nat) : ∀ (out : List Int) (t11 : List (Int × Int)) (t12 : Int) (t13 : Int) (w : List Int) (h : f78_pack_Put_L3 n out t11 t12 t13 = some w) (o : Out) (hk : f78_pack_Put_L3_k w o), At Go.Proofs.Try.prog Go.Proofs.Try.f78 0 3 ⟨[(5, .one (.c (.own 0 (.int .u8) out))), (11, .one (.c (.d (.sl (.pair (.int .i64) (.int .u64)) t11)))), (12, .one (.c (.d (.int .i64 t12)))), (13, .one (.c (.d (.int .i64 t13))))], [(0, some ⟨5, 0⟩)], [], 1⟩ o := by
  induction n with
  | zero => intro out t11 t12 t13 w h; rw [f78_pack_Put_L3] at h; cases h
  | succ n ih =>
    intro out t11 t12 t13 w h o hk
    rw [f78_pack_Put_L3] at h
    rcases iteS h with ⟨b40_e0, h⟩ | ⟨b40_e0, h⟩
    · refine At.step hm ht ⟨[], [true], [], [5, 11, 12, 13], [0]⟩ 4 ⟨[(5, .one (.c (.own 0 (.int .u8) out))), (11, .one (.c (.d (.sl (.pair (.int .i64) (.int .u64)) t11)))), (12, .one (.c (.d (.int .i64 t12)))), (13, .one (.c (.d (.int .i64 t13))))], [(0, some ⟨5, 0⟩)], [], 1⟩ [(decide ((t13 : Int) < t12)) = true] (by kernel_rfl) ⟨b40_e0, trivial⟩ ?_
      obtain ⟨g41_0, h⟩ := ifS h
      refine At.step hm ht ⟨[], [], [], [5, 7, 11, 12, 13], [0, 3]⟩ 5 ⟨[(5, .one (.c (.own 0 (.int .u8) out))), (7, .one (.c (.ptr 1 0))), (11, .one (.c (.d (.sl (.pair (.int .i64) (.int .u64)) t11)))), (12, .one (.c (.d (.int .i64 t12)))), (13, .one (.c (.d (.int .i64 t13))))], [(0, some ⟨5, 0⟩)], [(1, [.d (.int .i64 ((t11.getD t13.toNat (0, 0)).1)), .d (.int .u64 ((t11.getD t13.toNat (0, 0)).2))])], 2⟩ [(0 : Int) ≤ t13 ∧ t13 < (((t11).length : Nat) : Int), 0 + 2 ≤ 2] (by kernel_rfl) ⟨g41_0, (by decide), trivial⟩ ?_
      rcases iteS h with ⟨b42_3, h⟩ | ⟨b42_3, h⟩
      · refine At.step hm ht ⟨[(3, .b true)], [true], [], [5, 11, 12, 13], [0]⟩ 10 ⟨[(5, .one (.c (.own 0 (.int .u8) out))), (11, .one (.c (.d (.sl (.pair (.int .i64) (.int .u64)) t11)))), (12, .one (.c (.d (.int .i64 t12)))), (13, .one (.c (.d (.int .i64 t13))))], [(0, some ⟨5, 0⟩)], [], 1⟩ [(decide ((((t11.getD t13.toNat (0, 0)).1) : Int) < 1)) = true, true = true] (by kernel_rfl) ⟨b42_3, rfl, trivial⟩ ?_
        refine At.step hm ht ⟨[], [], [], [5, 11, 12, 13], [0]⟩ 3 ⟨[(5, .one (.c (.own 0 (.int .u8) out))), (11, .one (.c (.d (.sl (.pair (.int .i64) (.int .u64)) t11)))), (12, .one (.c (.d (.int .i64 t12)))), (13, .one (.c (.d (.int .i64 (IntKind.wrap .i64 (t13 + 1))))))], [(0, some ⟨5, 0⟩)], [], 1⟩ [] (by kernel_rfl) trivial ?_
        exact ih out t11 t12 (IntKind.wrap .i64 (t13 + 1)) w h o hk
      · rcases iteS h with ⟨b42_e0, h⟩ | ⟨b42_e0, h⟩
        · refine At.step hm ht ⟨[(3, .b false)], [true], [], [5, 11, 12, 13], [0]⟩ 10 ⟨[(5, .one (.c (.own 0 (.int .u8) out))), (11, .one (.c (.d (.sl (.pair (.int .i64) (.int .u64)) t11)))), (12, .one (.c (.d (.int .i64 t12)))), (13, .one (.c (.d (.int .i64 t13))))], [(0, some ⟨5, 0⟩)], [], 1⟩ [(decide ((((t11.getD t13.toNat (0, 0)).1) : Int) < 1)) = false, (decide ((((t11.getD t13.toNat (0, 0)).1) : Int) > 8)) = true] (by kernel_rfl) ⟨b42_3, b42_e0, trivial⟩ ?_
          refine At.step hm ht ⟨[], [], [], [5, 11, 12, 13], [0]⟩ 3 ⟨[(5, .one (.c (.own 0 (.int .u8) out))), (11, .one (.c (.d (.sl (.pair (.int .i64) (.int .u64)) t11)))), (12, .one (.c (.d (.int .i64 t12)))), (13, .one (.c (.d (.int .i64 (IntKind.wrap .i64 (t13 + 1))))))], [(0, some ⟨5, 0⟩)], [], 1⟩ [] (by kernel_rfl) trivial ?_
          exact ih out t11 t12 (IntKind.wrap .i64 (t13 + 1)) w h o hk
        · refine At.step hm ht ⟨[(3, .b false)], [false], [], [5, 7, 11, 12, 13], [0, 1]⟩ 6 ⟨[(5, .one (.c (.own 0 (.int .u8) out))), (7, .one (.c (.ptr 1 0))), (11, .one (.c (.d (.sl (.pair (.int .i64) (.int .u64)) t11)))), (12, .one (.c (.d (.int .i64 t12)))), (13, .one (.c (.d (.int .i64 t13))))], [(0, some ⟨5, 0⟩)], [(1, [.d (.int .i64 ((t11.getD t13.toNat (0, 0)).1)), .d (.int .u64 ((t11.getD t13.toNat (0, 0)).2))])], 2⟩ [(decide ((((t11.getD t13.toNat (0, 0)).1) : Int) < 1)) = false, (decide ((((t11.getD t13.toNat (0, 0)).1) : Int) > 8)) = false] (by kernel_rfl) ⟨b42_3, b42_e0, trivial⟩ ?_
          refine At.step hm ht ⟨[], [], [], [5, 7, 8, 11, 12, 13], [0, 1]⟩ 7 ⟨[(5, .one (.c (.own 0 (.int .u8) out))), (7, .one (.c (.ptr 1 0))), (8, .one (.c (.d (.int .i64 (IntKind.wrap .i64 (((t11.getD t13.toNat (0, 0)).1) - 1)))))), (11, .one (.c (.d (.sl (.pair (.int .i64) (.int .u64)) t11)))), (12, .one (.c (.d (.int .i64 t12)))), (13, .one (.c (.d (.int .i64 t13))))], [(0, some ⟨5, 0⟩)], [(1, [.d (.int .i64 ((t11.getD t13.toNat (0, 0)).1)), .d (.int .u64 ((t11.getD t13.toNat (0, 0)).2))])], 2⟩ [] (by kernel_rfl) trivial ?_
          obtain ⟨w49, cw49, h⟩ := bindS h
          refine f78_pack_Put_L7_ok n out (IntKind.wrap .i64 (((t11.getD t13.toNat (0, 0)).1) - 1)) t11 t12 t13 ((t11.getD t13.toNat (0, 0)).1) ((t11.getD t13.toNat (0, 0)).2) w49 cw49 _ ?_
          show At Go.Proofs.Try.prog Go.Proofs.Try.f78 0 10 ⟨[(5, .one (.c (.own 0 (.int .u8) w49.1))), (11, .one (.c (.d (.sl (.pair (.int .i64) (.int .u64)) w49.2.1)))), (12, .one (.c (.d (.int .i64 w49.2.2.1)))), (13, .one (.c (.d (.int .i64 w49.2.2.2))))], [(0, some ⟨5, 0⟩)], [], 1⟩ _
          refine At.step hm ht ⟨[], [], [], [5, 11, 12, 13], [0]⟩ 3 ⟨[(5, .one (.c (.own 0 (.int .u8) w49.1))), (11, .one (.c (.d (.sl (.pair (.int .i64) (.int .u64)) w49.2.1)))), (12, .one (.c (.d (.int .i64 w49.2.2.1)))), (13, .one (.c (.d (.int .i64 (IntKind.wrap .i64 (w49.2.2.2 + 1))))))], [(0, some ⟨5, 0⟩)], [], 1⟩ [] (by kernel_rfl) trivial ?_
          exact ih w49.1 w49.2.1 w49.2.2.1 (IntKind.wrap .i64 (w49.2.2.2 + 1)) w h o hk
    · refine At.step hm ht ⟨[], [false], [], [5], [0]⟩ 11 ⟨[(5, .one (.c (.own 0 (.int .u8) out)))], [(0, some ⟨5, 0⟩)], [], 1⟩ [(decide ((t13 : Int) < t12)) = false] (by kernel_rfl) ⟨b40_e0, trivial⟩ ?_
      have h := Option.some.inj h
      subst h
      exact hk
def f78_pack_Put (n : Nat) (b : List Int) (l : List (Int × Int)) : Option (List Int) :=
  if b.length ≤ maxLen ∧ b.length * 1 ≤ 140737488355328 then
  (f78_pack_Put_L3 n b l ((l.length : Nat) : Int) 0).bind fun w52 =>
  some w52
  else none
theorem f78_pack_Put_ok (n : Nat) (b : List Int) (l : List (Int × Int)) (r : List Int) (h : f78_pack_Put n b l = some r) : FnOK Go.Proofs.Try.prog 78 (f78_pack_Put_in b l) (f78_pack_Put_out r) := by
  unfold f78_pack_Put at h
  refine At.fn (r := 0) Go.Proofs.Try.func78 rfl (by kernel_rfl) rfl rfl (by kernel_rfl) ?_
  show At Go.Proofs.Try.prog Go.Proofs.Try.f78 0 0 ⟨[(0, .one (.c (.d (.sl (.int .u8) b)))), (1, .one (.c (.d (.sl (.pair (.int .i64) (.int .u64)) l))))], [], [], 0⟩ _
  refine At.step hm ht ⟨[], [], [], [0, 1], []⟩ 1 ⟨[(0, .one (.c (.d (.sl (.int .u8) b)))), (1, .one (.c (.d (.sl (.pair (.int .i64) (.int .u64)) l))))], [], [], 0⟩ [] (by kernel_rfl) trivial ?_
  obtain ⟨g38_0, h⟩ := ifS h
  refine At.step hm ht ⟨[], [], [], [1, 5], [1]⟩ 2 ⟨[(1, .one (.c (.d (.sl (.pair (.int .i64) (.int .u64)) l)))), (5, .one (.c (.own 0 (.int .u8) b)))], [(0, some ⟨5, 0⟩)], [], 1⟩ [b.length ≤ maxLen ∧ b.length * 1 ≤ 140737488355328] (by kernel_rfl) ⟨g38_0, trivial⟩ ?_
  refine At.step hm ht ⟨[], [], [], [5, 11, 12, 13], [0]⟩ 3 ⟨[(5, .one (.c (.own 0 (.int .u8) b))), (11, .one (.c (.d (.sl (.pair (.int .i64) (.int .u64)) l)))), (12, .one (.c (.d (.int .i64 ((l.length : Nat) : Int))))), (13, .one (.c (.d (.int .i64 0))))], [(0, some ⟨5, 0⟩)], [], 1⟩ [] (by kernel_rfl) trivial ?_
  obtain ⟨w52, cw52, h⟩ := bindS h
  refine f78_pack_Put_L3_ok n b l ((l.length : Nat) : Int) 0 w52 cw52 _ ?_
  show At Go.Proofs.Try.prog Go.Proofs.Try.f78 0 11 ⟨[(5, .one (.c (.own 0 (.int .u8) w52)))], [(0, some ⟨5, 0⟩)], [], 1⟩ _
  have h := Option.some.inj h
  subst h
  exact At.fin hm ht ⟨[], [], [], [4], [0]⟩ [] (by kernel_rfl) trivial
/-! brougham/sack.Option -/
def f44_sack_Option_in (wait : Int) (l : List (Int × Int)) : Inn := ⟨[.c (.d (.int .u32 wait)), .c (.d (.sl (.pair (.int .u32) (.int .u32)) l))], [], [], 0⟩
def f44_sack_Option_out (r : Bool × Int × List Int) : Out := ⟨.tup [.agg [.d (.int .u8 r.2.1), .own 1 (.int .u8) r.2.2], .c (.d (.bool r.1))], [(1, ⟨5, 0⟩)], [(0, [.d (.int .u8 r.2.1), .own 1 (.int .u8) r.2.2])], 2⟩
def f44_sack_Option_L6 : Nat → (List Int) → Int → (List (Int × Int)) → Int → Int → Int → Option (List Int × Int)
  | 0, _, _, _, _, _, _ => none
  | n + 1, b, last, t21, t22, t23, t4_0 =>
    if (decide ((t23 : Int) < t22)) = true then
      if (0 : Int) ≤ t23 ∧ t23 < (((t21).length : Nat) : Int) then
      (f79_pack_W (IntKind.wrap .u32 (((t21.getD t23.toNat (0, 0)).1) - last))).bind fun r81_0 =>
      (f79_pack_W (IntKind.wrap .u32 (((t21.getD t23.toNat (0, 0)).2) - ((t21.getD t23.toNat (0, 0)).1)))).bind fun r81_1 =>
      (f78_pack_Put n b [r81_0, r81_1]).bind fun r81_2 =>
      f44_sack_Option_L6 n r81_2 ((t21.getD t23.toNat (0, 0)).2) t21 t22 (IntKind.wrap .i64 (t23 + 1)) t4_0
      else none
    else
      some ((b, t4_0))
def f44_sack_Option_L6_k (e : List Int × Int) (o : Out) : Prop := At Go.Proofs.Try.prog Go.Proofs.Try.f44 0 11 ⟨[(4, .one (.c (.ptr 0 0))), (6, .one (.c (.own 1 (.int .u8) e.1)))], [(1, some ⟨5, 0⟩)], [(0, [.d (.int .u8 e.2), .d (.sl .unit [])])], 2⟩ o
theorem f44_sack_Option_L6_ok (n : Nat) : ∀ (b : List Int) (last : Int) (t21 : List (Int × Int)) (t22 : Int) (t23 : Int) (t4_0 : Int) (w : List Int × Int) (h : f44_sack_Option_L6 n b last t21 t22 t23 t4_0 = some w) (o : Out) (hk : f44_sack_Option_L6_k w o), At Go.Proofs.Try.prog Go.Proofs.Try.f44 0 6 ⟨[(4, .one (.c (.ptr 0 0))), (6, .one (.c (.own 1 (.int .u8) b))), (7, .one (.c (.d (.int .u32 last)))), (21, .one (.c (.d (.sl (.pair (.int .u32) (.int .u32)) t21)))), (22, .one (.c (.d (.int .i64 t22)))), (23, .one (.c (.d (.int .i64 t23))))], [(1, some ⟨5, 0⟩)], [(0, [.d (.int .u8 t4_0), .d (.sl .unit [])])], 2⟩ o := by
  induction n with
  | zero => intro b last t21 t22 t23 t4_0 w h; rw [f44_sack_Option_L6] at h; cases h
  | succ n ih =>
    intro b last t21 t22 t23 t4_0 w h o hk
    rw [f44_sack_Option_L6] at h
    rcases iteS h with ⟨b79_e0, h⟩ | ⟨b79_e0, h⟩
    · refine At.step hm ht ⟨[], [true], [], [4, 6, 7, 21, 22, 23], [0, 1]⟩ 7 ⟨[(4, .one (.c (.ptr 0 0))), (6, .one (.c (.own 1 (.int .u8) b))), (7, .one (.c (.d (.int .u32 last)))), (21, .one (.c (.d (.sl (.pair (.int .u32) (.int .u32)) t21)))), (22, .one (.c (.d (.int .i64 t22)))), (23, .one (.c (.d (.int .i64 t23))))], [(1, some ⟨5, 0⟩)], [(0, [.d (.int .u8 t4_0), .d (.sl .unit [])])], 2⟩ [(decide ((t23 : Int) < t22)) = true] (by kernel_rfl) ⟨b79_e0, trivial⟩ ?_
      obtain ⟨g80_0, h⟩ := ifS h
      refine At.step hm ht ⟨[], [], [], [4, 6, 7, 9, 21, 22, 23], [0, 1, 4]⟩ 8 ⟨[(4, .one (.c (.ptr 0 0))), (6, .one (.c (.own 1 (.int .u8) b))), (7, .one (.c (.d (.int .u32 last)))), (9, .one (.c (.ptr 2 0))), (21, .one (.c (.d (.sl (.pair (.int .u32) (.int .u32)) t21)))), (22, .one (.c (.d (.int .i64 t22)))), (23, .one (.c (.d (.int .i64 t23))))], [(1, some ⟨5, 0⟩)], [(0, [.d (.int .u8 t4_0), .d (.sl .unit [])]), (2, [.d (.int .u32 ((t21.getD t23.toNat (0, 0)).1)), .d (.int .u32 ((t21.getD t23.toNat (0, 0)).2))])], 3⟩ [(0 : Int) ≤ t23 ∧ t23 < (((t21).length : Nat) : Int), 0 + 2 ≤ 2] (by kernel_rfl) ⟨g80_0, (by decide), trivial⟩ ?_
      obtain ⟨r81_0, cr81_0, h⟩ := bindS h
      obtain ⟨r81_1, cr81_1, h⟩ := bindS h
      obtain ⟨r81_2, cr81_2, h⟩ := bindS h
      refine At.step hm ht ⟨[(5, .call [] [] (f79_pack_W_out r81_0)), (11, .call [] [] (f79_pack_W_out r81_1)), (13, .call [] [] (f78_pack_Put_out r81_2))], [], [], [4, 6, 9, 21, 22, 23], [0, 16, 2]⟩ 9 ⟨[(4, .one (.c (.ptr 0 0))), (6, .one (.c (.own 1 (.int .u8) r81_2))), (9, .one (.c (.ptr 2 0))), (21, .one (.c (.d (.sl (.pair (.int .u32) (.int .u32)) t21)))), (22, .one (.c (.d (.int .i64 t22)))), (23, .one (.c (.d (.int .i64 t23))))], [(1, some ⟨5, 0⟩)], [(0, [.d (.int .u8 t4_0), .d (.sl .unit [])]), (2, [.d (.int .u32 ((t21.getD t23.toNat (0, 0)).1)), .d (.int .u32 ((t21.getD t23.toNat (0, 0)).2))])], 3⟩ [FnOK Go.Proofs.Try.prog 79 (f79_pack_W_in (IntKind.wrap .u32 (((t21.getD t23.toNat (0, 0)).1) - last))) (f79_pack_W_out r81_0), FnOK Go.Proofs.Try.prog 79 (f79_pack_W_in (IntKind.wrap .u32 (((t21.getD t23.toNat (0, 0)).2) - ((t21.getD t23.toNat (0, 0)).1)))) (f79_pack_W_out r81_1), FnOK Go.Proofs.Try.prog 78 (f78_pack_Put_in b [r81_0, r81_1]) (f78_pack_Put_out r81_2)] (by kernel_rfl) ⟨(f79_pack_W_ok (IntKind.wrap .u32 (((t21.getD t23.toNat (0, 0)).1) - last)) r81_0 cr81_0), (f79_pack_W_ok (IntKind.wrap .u32 (((t21.getD t23.toNat (0, 0)).2) - ((t21.getD t23.toNat (0, 0)).1))) r81_1 cr81_1), (f78_pack_Put_ok n b [r81_0, r81_1] r81_2 cr81_2), trivial⟩ ?_
      refine At.step hm ht ⟨[], [], [], [4, 6, 7, 21, 22, 23], [0, 1]⟩ 10 ⟨[(4, .one (.c (.ptr 0 0))), (6, .one (.c (.own 1 (.int .u8) r81_2))), (7, .one (.c (.d (.int .u32 ((t21.getD t23.toNat (0, 0)).2))))), (21, .one (.c (.d (.sl (.pair (.int .u32) (.int .u32)) t21)))), (22, .one (.c (.d (.int .i64 t22)))), (23, .one (.c (.d (.int .i64 t23))))], [(1, some ⟨5, 0⟩)], [(0, [.d (.int .u8 t4_0), .d (.sl .unit [])])], 2⟩ [] (by kernel_rfl) trivial ?_
      refine At.step hm ht ⟨[], [], [], [4, 6, 7, 21, 22, 23], [0, 1]⟩ 6 ⟨[(4, .one (.c (.ptr 0 0))), (6, .one (.c (.own 1 (.int .u8) r81_2))), (7, .one (.c (.d (.int .u32 ((t21.getD t23.toNat (0, 0)).2))))), (21, .one (.c (.d (.sl (.pair (.int .u32) (.int .u32)) t21)))), (22, .one (.c (.d (.int .i64 t22)))), (23, .one (.c (.d (.int .i64 (IntKind.wrap .i64 (t23 + 1))))))], [(1, some ⟨5, 0⟩)], [(0, [.d (.int .u8 t4_0), .d (.sl .unit [])])], 2⟩ [] (by kernel_rfl) trivial ?_
      exact ih r81_2 ((t21.getD t23.toNat (0, 0)).2) t21 t22 (IntKind.wrap .i64 (t23 + 1)) t4_0 w h o hk
    · refine At.step hm ht ⟨[], [false], [], [4, 6], [0, 1]⟩ 11 ⟨[(4, .one (.c (.ptr 0 0))), (6, .one (.c (.own 1 (.int .u8) b)))], [(1, some ⟨5, 0⟩)], [(0, [.d (.int .u8 t4_0), .d (.sl .unit [])])], 2⟩ [(decide ((t23 : Int) < t22)) = false] (by kernel_rfl) ⟨b79_e0, trivial⟩ ?_
      have h := Option.some.inj h
      subst h
      exact hk
def f44_sack_Option (n : Nat) (wait : Int) (l : List (Int × Int)) : Option (Bool × Int × List Int) :=
  (f47_sack_Right n wait l).bind fun r73_0 =>
  if (!r73_0) = true then
    some (false, 0, [])
  else
    if ((((l.length : Nat) : Int) : Int) == 0) = true then
      some (false, 0, [])
    else
      (f44_sack_Option_L6 n [] wait l ((l.length : Nat) : Int) 0 0).bind fun w84 =>
      some (true, 9, w84.1)
theorem f44_sack_Option_ok (n : Nat) (wait : Int) (l : List (Int × Int)) (r : Bool × Int × List Int) (h : f44_sack_Option n wait l = some r) : FnOK Go.Proofs.Try.prog 44 (f44_sack_Option_in wait l) (f44_sack_Option_out r) := by
  unfold f44_sack_Option at h
  refine At.fn (r := 0) Go.Proofs.Try.func44 rfl (by kernel_rfl) rfl rfl (by kernel_rfl) ?_
  show At Go.Proofs.Try.prog Go.Proofs.Try.f44 0 0 ⟨[(0, .one (.c (.d (.int .u32 wait)))), (1, .one (.c (.d (.sl (.pair (.int .u32) (.int .u32)) l))))], [], [], 0⟩ _
  refine At.step hm ht ⟨[], [], [], [0, 1, 4], [0]⟩ 1 ⟨[(0, .one (.c (.d (.int .u32 wait)))), (1, .one (.c (.d (.sl (.pair (.int .u32) (.int .u32)) l)))), (4, .one (.c (.ptr 0 0)))], [], [(0, [.d (.int .u8 0), .d (.sl .unit [])])], 1⟩ [] (by kernel_rfl) trivial ?_
  obtain ⟨r73_0, cr73_0, h⟩ := bindS h
  rcases iteS h with ⟨b73_4, h⟩ | ⟨b73_4, h⟩
  · refine At.step hm ht ⟨[(2, .call [] [] (f47_sack_Right_out r73_0)), (4, .b true)], [true], [], [4], [0]⟩ 2 ⟨[(4, .one (.c (.ptr 0 0)))], [], [(0, [.d (.int .u8 0), .d (.sl .unit [])])], 1⟩ [FnOK Go.Proofs.Try.prog 47 (f47_sack_Right_in wait l) (f47_sack_Right_out r73_0), (!r73_0) = true, true = true] (by kernel_rfl) ⟨(f47_sack_Right_ok n wait l r73_0 cr73_0), b73_4, rfl, trivial⟩ ?_
    have h := Option.some.inj h
    subst h
    exact At.fin hm ht ⟨[], [], [.nil true 0 1 (.int .u8) (some 5)], [4, 5], [0, 4]⟩ [0 + 2 ≤ 2] (by kernel_rfl) ⟨(by decide), trivial⟩
  · rcases iteS h with ⟨b73_e0, h⟩ | ⟨b73_e0, h⟩
    · refine At.step hm ht ⟨[(2, .call [] [] (f47_sack_Right_out r73_0)), (4, .b false)], [true], [], [4], [0]⟩ 2 ⟨[(4, .one (.c (.ptr 0 0)))], [], [(0, [.d (.int .u8 0), .d (.sl .unit [])])], 1⟩ [FnOK Go.Proofs.Try.prog 47 (f47_sack_Right_in wait l) (f47_sack_Right_out r73_0), (!r73_0) = false, ((((l.length : Nat) : Int) : Int) == 0) = true] (by kernel_rfl) ⟨(f47_sack_Right_ok n wait l r73_0 cr73_0), b73_4, b73_e0, trivial⟩ ?_
      have h := Option.some.inj h
      subst h
      exact At.fin hm ht ⟨[], [], [.nil true 0 1 (.int .u8) (some 5)], [4, 5], [0, 4]⟩ [0 + 2 ≤ 2] (by kernel_rfl) ⟨(by decide), trivial⟩
    · refine At.step hm ht ⟨[(2, .call [] [] (f47_sack_Right_out r73_0)), (4, .b false)], [false], [], [0, 1, 4], [0]⟩ 3 ⟨[(0, .one (.c (.d (.int .u32 wait)))), (1, .one (.c (.d (.sl (.pair (.int .u32) (.int .u32)) l)))), (4, .one (.c (.ptr 0 0)))], [], [(0, [.d (.int .u8 0), .d (.sl .unit [])])], 1⟩ [FnOK Go.Proofs.Try.prog 47 (f47_sack_Right_in wait l) (f47_sack_Right_out r73_0), (!r73_0) = false, ((((l.length : Nat) : Int) : Int) == 0) = false] (by kernel_rfl) ⟨(f47_sack_Right_ok n wait l r73_0 cr73_0), b73_4, b73_e0, trivial⟩ ?_
      refine At.step hm ht ⟨[], [], [], [0, 1, 4, 6], [0]⟩ 4 ⟨[(0, .one (.c (.d (.int .u32 wait)))), (1, .one (.c (.d (.sl (.pair (.int .u32) (.int .u32)) l)))), (4, .one (.c (.ptr 0 0))), (6, .one (.c (.d (.sl .unit []))))], [], [(0, [.d (.int .u8 0), .d (.sl .unit [])])], 1⟩ [] (by kernel_rfl) trivial ?_
      refine At.step hm ht ⟨[], [], [], [1, 4, 6, 7], [0]⟩ 5 ⟨[(1, .one (.c (.d (.sl (.pair (.int .u32) (.int .u32)) l)))), (4, .one (.c (.ptr 0 0))), (6, .one (.c (.d (.sl .unit [])))), (7, .one (.c (.d (.int .u32 wait))))], [], [(0, [.d (.int .u8 0), .d (.sl .unit [])])], 1⟩ [] (by kernel_rfl) trivial ?_
      refine At.step hm ht ⟨[], [], [.nil false 6 0 (.int .u8) (some 5)], [4, 6, 7, 21, 22, 23], [0, 4]⟩ 6 ⟨[(4, .one (.c (.ptr 0 0))), (6, .one (.c (.own 1 (.int .u8) []))), (7, .one (.c (.d (.int .u32 wait)))), (21, .one (.c (.d (.sl (.pair (.int .u32) (.int .u32)) l)))), (22, .one (.c (.d (.int .i64 ((l.length : Nat) : Int))))), (23, .one (.c (.d (.int .i64 0))))], [(1, some ⟨5, 0⟩)], [(0, [.d (.int .u8 0), .d (.sl .unit [])])], 2⟩ [] (by kernel_rfl) trivial ?_
      obtain ⟨w84, cw84, h⟩ := bindS h
      refine f44_sack_Option_L6_ok n [] wait l ((l.length : Nat) : Int) 0 0 w84 cw84 _ ?_
      show At Go.Proofs.Try.prog Go.Proofs.Try.f44 0 11 ⟨[(4, .one (.c (.ptr 0 0))), (6, .one (.c (.own 1 (.int .u8) w84.1)))], [(1, some ⟨5, 0⟩)], [(0, [.d (.int .u8 w84.2), .d (.sl .unit [])])], 2⟩ _
      have h := Option.some.inj h
      subst h
      exact At.fin hm ht ⟨[], [], [], [4, 5], [0, 1]⟩ [0 + 2 ≤ 2] (by kernel_rfl) ⟨(by decide), trivial⟩
/-! brougham/broughamlaw31.plain -/
def f36_broughamlaw31_plain_in (l : List (Int × Int)) : Inn := ⟨[.c (.d (.sl (.pair (.int .u32) (.int .u32)) l))], [], [], 0⟩
def f36_broughamlaw31_plain_out (r : List (Int × Int)) : Out := ⟨.one (.c (.own 0 (.pair (.int .u32) (.int .u32)) r)), [(0, ⟨161, 0⟩)], [], 1⟩
def f36_broughamlaw31_plain_L3 : Nat → (List (Int × Int)) → (List (Int × Int)) → Int → Option (List (Int × Int))
  | 0, _, _, _ => none
  | n + 1, l, out, i =>
    if (decide ((i : Int) < ((l.length : Nat) : Int))) = true then
      if (0 : Int) ≤ i ∧ i < (((l).length : Nat) : Int) then
      if (0 : Int) ≤ i ∧ i < (((l).length : Nat) : Int) then
      if out.length + [(l.getD i.toNat (0, 0))].length ≤ maxLen ∧ (out.length + [(l.getD i.toNat (0, 0))].length) * 8 ≤ 140737488355328 then
      f36_broughamlaw31_plain_L3 n l (out ++ [(l.getD i.toNat (0, 0))]) (IntKind.wrap .i64 (i + 1))
      else none
      else none
      else none
    else
      some (out)
def f36_broughamlaw31_plain_L3_k (e : List (Int × Int)) (o : Out) : Prop := At Go.Proofs.Try.prog Go.Proofs.Try.f36 0 6 ⟨[(3, .one (.c (.own 0 (.pair (.int .u32) (.int .u32)) e)))], [(0, some ⟨161, 0⟩)], [], 1⟩ o
theorem f36_broughamlaw31_plain_L3_ok (n : Nat) : ∀ (l : List (Int × Int)) (out : List (Int × Int)) (i : Int) (w : List (Int × Int)) (h : f36_broughamlaw31_plain_L3 n l out i = some w) (o : Out) (hk : f36_broughamlaw31_plain_L3_k w o), At Go.Proofs.Try.prog Go.Proofs.Try.f36 0 3 ⟨[(0, .one (.c (.d (.sl (.pair (.int .u32) (.int .u32)) l)))), (3, .one (.c (.own 0 (.pair (.int .u32) (.int .u32)) out))), (4, .one (.c (.d (.int .i64 i))))], [(0, some ⟨161, 0⟩)], [], 1⟩ o := by
  induction n with
  | zero => intro l out i w h; rw [f36_broughamlaw31_plain_L3] at h; cases h
  | succ n ih =>
    intro l out i w h o hk
    rw [f36_broughamlaw31_plain_L3] at h
    rcases iteS h with ⟨b97_e0, h⟩ | ⟨b97_e0, h⟩
    · refine At.step hm ht ⟨[], [true], [], [0, 3, 4], [0]⟩ 5 ⟨[(0, .one (.c (.d (.sl (.pair (.int .u32) (.int .u32)) l)))), (3, .one (.c (.own 0 (.pair (.int .u32) (.int .u32)) out))), (4, .one (.c (.d (.int .i64 i))))], [(0, some ⟨161, 0⟩)], [], 1⟩ [(decide ((i : Int) < ((l.length : Nat) : Int))) = true] (by kernel_rfl) ⟨b97_e0, trivial⟩ ?_
      obtain ⟨g98_0, h⟩ := ifS h
      obtain ⟨g98_1, h⟩ := ifS h
      obtain ⟨g98_2, h⟩ := ifS h
      refine At.step hm ht ⟨[], [], [], [0, 3, 4], [14]⟩ 4 ⟨[(0, .one (.c (.d (.sl (.pair (.int .u32) (.int .u32)) l)))), (3, .one (.c (.own 0 (.pair (.int .u32) (.int .u32)) (out ++ [(l.getD i.toNat (0, 0))])))), (4, .one (.c (.d (.int .i64 i))))], [(0, some ⟨161, 0⟩)], [], 1⟩ [(0 : Int) ≤ i ∧ i < (((l).length : Nat) : Int), (0 : Int) ≤ i ∧ i < (((l).length : Nat) : Int), out.length + [(l.getD i.toNat (0, 0))].length ≤ maxLen ∧ (out.length + [(l.getD i.toNat (0, 0))].length) * 8 ≤ 140737488355328] (by kernel_rfl) ⟨g98_0, g98_1, g98_2, trivial⟩ ?_
      refine At.step hm ht ⟨[], [], [], [0, 3, 4], [0]⟩ 3 ⟨[(0, .one (.c (.d (.sl (.pair (.int .u32) (.int .u32)) l)))), (3, .one (.c (.own 0 (.pair (.int .u32) (.int .u32)) (out ++ [(l.getD i.toNat (0, 0))])))), (4, .one (.c (.d (.int .i64 (IntKind.wrap .i64 (i + 1))))))], [(0, some ⟨161, 0⟩)], [], 1⟩ [] (by kernel_rfl) trivial ?_
      exact ih l (out ++ [(l.getD i.toNat (0, 0))]) (IntKind.wrap .i64 (i + 1)) w h o hk
    · refine At.step hm ht ⟨[], [false], [], [3], [0]⟩ 6 ⟨[(3, .one (.c (.own 0 (.pair (.int .u32) (.int .u32)) out)))], [(0, some ⟨161, 0⟩)], [], 1⟩ [(decide ((i : Int) < ((l.length : Nat) : Int))) = false] (by kernel_rfl) ⟨b97_e0, trivial⟩ ?_
      have h := Option.some.inj h
      subst h
      exact hk
def f36_broughamlaw31_plain (n : Nat) (l : List (Int × Int)) : Option (List (Int × Int)) :=
  (f36_broughamlaw31_plain_L3 n l [] 0).bind fun w100 =>
  some w100
theorem f36_broughamlaw31_plain_ok (n : Nat) (l : List (Int × Int)) (r : List (Int × Int)) (h : f36_broughamlaw31_plain n l = some r) : FnOK Go.Proofs.Try.prog 36 (f36_broughamlaw31_plain_in l) (f36_broughamlaw31_plain_out r) := by
  unfold f36_broughamlaw31_plain at h
  refine At.fn (r := 0) Go.Proofs.Try.func36 rfl (by kernel_rfl) rfl rfl (by kernel_rfl) ?_
  show At Go.Proofs.Try.prog Go.Proofs.Try.f36 0 0 ⟨[(0, .one (.c (.d (.sl (.pair (.int .u32) (.int .u32)) l))))], [], [], 0⟩ _
  refine At.step hm ht ⟨[], [], [], [0], []⟩ 1 ⟨[(0, .one (.c (.d (.sl (.pair (.int .u32) (.int .u32)) l))))], [], [], 0⟩ [] (by kernel_rfl) trivial ?_
  refine At.step hm ht ⟨[], [], [], [0, 3], []⟩ 2 ⟨[(0, .one (.c (.d (.sl (.pair (.int .u32) (.int .u32)) l)))), (3, .one (.c (.d (.sl .unit []))))], [], [], 0⟩ [] (by kernel_rfl) trivial ?_
  refine At.step hm ht ⟨[], [], [.nil false 3 0 (.pair (.int .u32) (.int .u32)) (some 161)], [0, 3, 4], [1]⟩ 3 ⟨[(0, .one (.c (.d (.sl (.pair (.int .u32) (.int .u32)) l)))), (3, .one (.c (.own 0 (.pair (.int .u32) (.int .u32)) []))), (4, .one (.c (.d (.int .i64 0))))], [(0, some ⟨161, 0⟩)], [], 1⟩ [] (by kernel_rfl) trivial ?_
  obtain ⟨w100, cw100, h⟩ := bindS h
  refine f36_broughamlaw31_plain_L3_ok n l [] 0 w100 cw100 _ ?_
  show At Go.Proofs.Try.prog Go.Proofs.Try.f36 0 6 ⟨[(3, .one (.c (.own 0 (.pair (.int .u32) (.int .u32)) w100)))], [(0, some ⟨161, 0⟩)], [], 1⟩ _
  have h := Option.some.inj h
  subst h
  exact At.fin hm ht ⟨[], [], [], [2], [0]⟩ [] (by kernel_rfl) trivial
/-! brougham/broughamref04.Diff -/
def f86_broughamref04_Diff_in (a : Int) (b : Int) : Inn := ⟨[.c (.d (.int .u32 a)), .c (.d (.int .u32 b))], [], [], 0⟩
def f86_broughamref04_Diff_out (r : Int) : Out := ⟨.one (.c (.d (.int .i64 r))), [], [], 0⟩
def f86_broughamref04_Diff (a : Int) (b : Int) : Option (Int) :=
  if (decide (((IntKind.wrap .i64 ((IntKind.wrap .i64 a) - (IntKind.wrap .i64 b))) : Int) < (-2147483648))) = true then
    if (decide (((IntKind.wrap .i64 ((IntKind.wrap .i64 ((IntKind.wrap .i64 a) - (IntKind.wrap .i64 b))) + 4294967296)) : Int) ≥ 2147483648)) = true then
      some (IntKind.wrap .i64 ((IntKind.wrap .i64 ((IntKind.wrap .i64 ((IntKind.wrap .i64 a) - (IntKind.wrap .i64 b))) + 4294967296)) - 4294967296))
    else
      some (IntKind.wrap .i64 ((IntKind.wrap .i64 ((IntKind.wrap .i64 a) - (IntKind.wrap .i64 b))) + 4294967296))
  else
    if (decide (((IntKind.wrap .i64 ((IntKind.wrap .i64 a) - (IntKind.wrap .i64 b))) : Int) ≥ 2147483648)) = true then
      some (IntKind.wrap .i64 ((IntKind.wrap .i64 ((IntKind.wrap .i64 a) - (IntKind.wrap .i64 b))) - 4294967296))
    else
      some (IntKind.wrap .i64 ((IntKind.wrap .i64 a) - (IntKind.wrap .i64 b)))
theorem f86_broughamref04_Diff_ok (a : Int) (b : Int) (r : Int) (h : f86_broughamref04_Diff a b = some r) : FnOK Go.Proofs.Try.prog 86 (f86_broughamref04_Diff_in a b) (f86_broughamref04_Diff_out r) := by
  unfold f86_broughamref04_Diff at h
  refine At.fn (r := 0) Go.Proofs.Try.func86 rfl (by kernel_rfl) rfl rfl (by kernel_rfl) ?_
  show At Go.Proofs.Try.prog Go.Proofs.Try.f86 0 0 ⟨[(0, .one (.c (.d (.int .u32 a)))), (1, .one (.c (.d (.int .u32 b))))], [], [], 0⟩ _
  refine At.step hm ht ⟨[], [], [], [0, 1], []⟩ 1 ⟨[(0, .one (.c (.d (.int .u32 a)))), (1, .one (.c (.d (.int .u32 b))))], [], [], 0⟩ [] (by kernel_rfl) trivial ?_
  refine At.step hm ht ⟨[], [], [], [5], []⟩ 2 ⟨[(5, .one (.c (.d (.int .i64 (IntKind.wrap .i64 ((IntKind.wrap .i64 a) - (IntKind.wrap .i64 b)))))))], [], [], 0⟩ [] (by kernel_rfl) trivial ?_
  rcases iteS h with ⟨b113_e0, h⟩ | ⟨b113_e0, h⟩
  · refine At.step hm ht ⟨[], [true], [], [5], []⟩ 3 ⟨[(5, .one (.c (.d (.int .i64 (IntKind.wrap .i64 ((IntKind.wrap .i64 a) - (IntKind.wrap .i64 b)))))))], [], [], 0⟩ [(decide (((IntKind.wrap .i64 ((IntKind.wrap .i64 a) - (IntKind.wrap .i64 b))) : Int) < (-2147483648))) = true] (by kernel_rfl) ⟨b113_e0, trivial⟩ ?_
    refine At.step hm ht ⟨[], [], [], [5], []⟩ 4 ⟨[(5, .one (.c (.d (.int .i64 (IntKind.wrap .i64 ((IntKind.wrap .i64 ((IntKind.wrap .i64 a) - (IntKind.wrap .i64 b))) + 4294967296))))))], [], [], 0⟩ [] (by kernel_rfl) trivial ?_
    rcases iteS h with ⟨b115_e0, h⟩ | ⟨b115_e0, h⟩
    · refine At.step hm ht ⟨[], [true], [], [5], []⟩ 5 ⟨[(5, .one (.c (.d (.int .i64 (IntKind.wrap .i64 ((IntKind.wrap .i64 ((IntKind.wrap .i64 a) - (IntKind.wrap .i64 b))) + 4294967296))))))], [], [], 0⟩ [(decide (((IntKind.wrap .i64 ((IntKind.wrap .i64 ((IntKind.wrap .i64 a) - (IntKind.wrap .i64 b))) + 4294967296)) : Int) ≥ 2147483648)) = true] (by kernel_rfl) ⟨b115_e0, trivial⟩ ?_
      refine At.step hm ht ⟨[], [], [], [5], []⟩ 6 ⟨[(5, .one (.c (.d (.int .i64 (IntKind.wrap .i64 ((IntKind.wrap .i64 ((IntKind.wrap .i64 ((IntKind.wrap .i64 a) - (IntKind.wrap .i64 b))) + 4294967296)) - 4294967296))))))], [], [], 0⟩ [] (by kernel_rfl) trivial ?_
      have h := Option.some.inj h
      subst h
      exact At.fin hm ht ⟨[], [], [], [4], []⟩ [] (by kernel_rfl) trivial
    · refine At.step hm ht ⟨[], [false], [], [5], []⟩ 6 ⟨[(5, .one (.c (.d (.int .i64 (IntKind.wrap .i64 ((IntKind.wrap .i64 ((IntKind.wrap .i64 a) - (IntKind.wrap .i64 b))) + 4294967296))))))], [], [], 0⟩ [(decide (((IntKind.wrap .i64 ((IntKind.wrap .i64 ((IntKind.wrap .i64 a) - (IntKind.wrap .i64 b))) + 4294967296)) : Int) ≥ 2147483648)) = false] (by kernel_rfl) ⟨b115_e0, trivial⟩ ?_
      have h := Option.some.inj h
      subst h
      exact At.fin hm ht ⟨[], [], [], [4], []⟩ [] (by kernel_rfl) trivial
  · refine At.step hm ht ⟨[], [false], [], [5], []⟩ 4 ⟨[(5, .one (.c (.d (.int .i64 (IntKind.wrap .i64 ((IntKind.wrap .i64 a) - (IntKind.wrap .i64 b)))))))], [], [], 0⟩ [(decide (((IntKind.wrap .i64 ((IntKind.wrap .i64 a) - (IntKind.wrap .i64 b))) : Int) < (-2147483648))) = false] (by kernel_rfl) ⟨b113_e0, trivial⟩ ?_
    rcases iteS h with ⟨b119_e0, h⟩ | ⟨b119_e0, h⟩
    · refine At.step hm ht ⟨[], [true], [], [5], []⟩ 5 ⟨[(5, .one (.c (.d (.int .i64 (IntKind.wrap .i64 ((IntKind.wrap .i64 a) - (IntKind.wrap .i64 b)))))))], [], [], 0⟩ [(decide (((IntKind.wrap .i64 ((IntKind.wrap .i64 a) - (IntKind.wrap .i64 b))) : Int) ≥ 2147483648)) = true] (by kernel_rfl) ⟨b119_e0, trivial⟩ ?_
      refine At.step hm ht ⟨[], [], [], [5], []⟩ 6 ⟨[(5, .one (.c (.d (.int .i64 (IntKind.wrap .i64 ((IntKind.wrap .i64 ((IntKind.wrap .i64 a) - (IntKind.wrap .i64 b))) - 4294967296))))))], [], [], 0⟩ [] (by kernel_rfl) trivial ?_
      have h := Option.some.inj h
      subst h
      exact At.fin hm ht ⟨[], [], [], [4], []⟩ [] (by kernel_rfl) trivial
    · refine At.step hm ht ⟨[], [false], [], [5], []⟩ 6 ⟨[(5, .one (.c (.d (.int .i64 (IntKind.wrap .i64 ((IntKind.wrap .i64 a) - (IntKind.wrap .i64 b)))))))], [], [], 0⟩ [(decide (((IntKind.wrap .i64 ((IntKind.wrap .i64 a) - (IntKind.wrap .i64 b))) : Int) ≥ 2147483648)) = false] (by kernel_rfl) ⟨b119_e0, trivial⟩ ?_
      have h := Option.some.inj h
      subst h
      exact At.fin hm ht ⟨[], [], [], [4], []⟩ [] (by kernel_rfl) trivial
/-! brougham/broughamref31.Right -/
def f48_broughamref31_Right_in (wait : Int) (l : List (Int × Int)) : Inn := ⟨[.c (.d (.int .u32 wait)), .c (.d (.sl (.pair (.int .u32) (.int .u32)) l))], [], [], 0⟩
def f48_broughamref31_Right_out (r : Bool) : Out := ⟨.one (.c (.d (.bool r))), [], [], 0⟩
def f48_broughamref31_Right_L3 : Nat → Int → (List (Int × Int)) → Int → Int → Option ((Bool) ⊕ (List (Int × Int)))
  | 0, _, _, _, _ => none
  | n + 1, wait, l, last, i =>
    if (decide ((i : Int) < ((l.length : Nat) : Int))) = true then
      if (0 : Int) ≤ i ∧ i < (((l).length : Nat) : Int) then
      (f86_broughamref04_Diff ((l.getD i.toNat (0, 0)).1) last).bind fun r110_1 =>
      if (decide ((r110_1 : Int) ≤ 0)) = true then
        some (.inl false)
      else
        if (0 : Int) ≤ i ∧ i < (((l).length : Nat) : Int) then
        if (0 : Int) ≤ i ∧ i < (((l).length : Nat) : Int) then
        (f86_broughamref04_Diff ((l.getD i.toNat (0, 0)).2) ((l.getD i.toNat (0, 0)).1)).bind fun r110_4 =>
        if (decide ((r110_4 : Int) ≤ 0)) = true then
          some (.inl false)
        else
          if (0 : Int) ≤ i ∧ i < (((l).length : Nat) : Int) then
          (f86_broughamref04_Diff ((l.getD i.toNat (0, 0)).2) wait).bind fun r110_6 =>
          if (decide ((r110_6 : Int) ≤ 0)) = true then
            some (.inl false)
          else
            if (0 : Int) ≤ i ∧ i < (((l).length : Nat) : Int) then
            f48_broughamref31_Right_L3 n wait l ((l.getD i.toNat (0, 0)).2) (IntKind.wrap .i64 (i + 1))
            else none
          else none
        else none
        else none
      else none
    else
      some (.inr l)
def f48_broughamref31_Right_L3_k (w : (Bool) ⊕ (List (Int × Int))) (o : Out) : Prop := match w with
  | .inl e => o = f48_broughamref31_Right_out e
  | .inr e => At Go.Proofs.Try.prog Go.Proofs.Try.f48 0 8 ⟨[(1, .one (.c (.d (.sl (.pair (.int .u32) (.int .u32)) e))))], [], [], 0⟩ o
theorem f48_broughamref31_Right_L3_ok (n : Nat) : ∀ (wait : Int) (l : List (Int × Int)) (last : Int) (i : Int) (w : (Bool) ⊕ (List (Int × Int))) (h : f48_broughamref31_Right_L3 n wait l last i = some w) (o : Out) (hk : f48_broughamref31_Right_L3_k w o), At Go.Proofs.Try.prog Go.Proofs.Try.f48 0 3 ⟨[(0, .one (.c (.d (.int .u32 wait)))), (1, .one (.c (.d (.sl (.pair (.int .u32) (.int .u32)) l)))), (5, .one (.c (.d (.int .u32 last)))), (6, .one (.c (.d (.int .i64 i))))], [], [], 0⟩ o := by
  induction n with
  | zero => intro wait l last i w h; rw [f48_broughamref31_Right_L3] at h; cases h
  | succ n ih =>
    intro wait l last i w h o hk
    rw [f48_broughamref31_Right_L3] at h
    rcases iteS h with ⟨b109_e0, h⟩ | ⟨b109_e0, h⟩
    · refine At.step hm ht ⟨[], [true], [], [0, 1, 5, 6], []⟩ 5 ⟨[(0, .one (.c (.d (.int .u32 wait)))), (1, .one (.c (.d (.sl (.pair (.int .u32) (.int .u32)) l)))), (5, .one (.c (.d (.int .u32 last)))), (6, .one (.c (.d (.int .i64 i))))], [], [], 0⟩ [(decide ((i : Int) < ((l.length : Nat) : Int))) = true] (by kernel_rfl) ⟨b109_e0, trivial⟩ ?_
      obtain ⟨g110_0, h⟩ := ifS h
      obtain ⟨r110_1, cr110_1, h⟩ := bindS h
      rcases iteS h with ⟨b110_8, h⟩ | ⟨b110_8, h⟩
      · refine At.step hm ht ⟨[(6, .call [] [] (f86_broughamref04_Diff_out r110_1)), (8, .b true)], [true], [], [], []⟩ 6 ⟨[], [], [], 0⟩ [(0 : Int) ≤ i ∧ i < (((l).length : Nat) : Int), FnOK Go.Proofs.Try.prog 86 (f86_broughamref04_Diff_in ((l.getD i.toNat (0, 0)).1) last) (f86_broughamref04_Diff_out r110_1), (decide ((r110_1 : Int) ≤ 0)) = true, true = true] (by kernel_rfl) ⟨g110_0, (f86_broughamref04_Diff_ok ((l.getD i.toNat (0, 0)).1) last r110_1 cr110_1), b110_8, rfl, trivial⟩ ?_
        have h := Option.some.inj h
        subst h
        have hk : o = f48_broughamref31_Right_out false := hk
        subst hk
        exact At.fin hm ht ⟨[], [], [], [4], []⟩ [] (by kernel_rfl) trivial
      · obtain ⟨g110_2, h⟩ := ifS h
        obtain ⟨g110_3, h⟩ := ifS h
        obtain ⟨r110_4, cr110_4, h⟩ := bindS h
        rcases iteS h with ⟨b110_22, h⟩ | ⟨b110_22, h⟩
        · refine At.step hm ht ⟨[(6, .call [] [] (f86_broughamref04_Diff_out r110_1)), (8, .b false), (19, .call [] [] (f86_broughamref04_Diff_out r110_4)), (22, .b true)], [true], [], [], []⟩ 6 ⟨[], [], [], 0⟩ [(0 : Int) ≤ i ∧ i < (((l).length : Nat) : Int), FnOK Go.Proofs.Try.prog 86 (f86_broughamref04_Diff_in ((l.getD i.toNat (0, 0)).1) last) (f86_broughamref04_Diff_out r110_1), (decide ((r110_1 : Int) ≤ 0)) = false, (0 : Int) ≤ i ∧ i < (((l).length : Nat) : Int), (0 : Int) ≤ i ∧ i < (((l).length : Nat) : Int), FnOK Go.Proofs.Try.prog 86 (f86_broughamref04_Diff_in ((l.getD i.toNat (0, 0)).2) ((l.getD i.toNat (0, 0)).1)) (f86_broughamref04_Diff_out r110_4), (decide ((r110_4 : Int) ≤ 0)) = true, true = true] (by kernel_rfl) ⟨g110_0, (f86_broughamref04_Diff_ok ((l.getD i.toNat (0, 0)).1) last r110_1 cr110_1), b110_8, g110_2, g110_3, (f86_broughamref04_Diff_ok ((l.getD i.toNat (0, 0)).2) ((l.getD i.toNat (0, 0)).1) r110_4 cr110_4), b110_22, rfl, trivial⟩ ?_
          have h := Option.some.inj h
          subst h
          have hk : o = f48_broughamref31_Right_out false := hk
          subst hk
          exact At.fin hm ht ⟨[], [], [], [4], []⟩ [] (by kernel_rfl) trivial
        · obtain ⟨g110_5, h⟩ := ifS h
          obtain ⟨r110_6, cr110_6, h⟩ := bindS h
          rcases iteS h with ⟨b110_e0, h⟩ | ⟨b110_e0, h⟩
          · refine At.step hm ht ⟨[(6, .call [] [] (f86_broughamref04_Diff_out r110_1)), (8, .b false), (19, .call [] [] (f86_broughamref04_Diff_out r110_4)), (22, .b false), (29, .call [] [] (f86_broughamref04_Diff_out r110_6))], [true], [], [], []⟩ 6 ⟨[], [], [], 0⟩ [(0 : Int) ≤ i ∧ i < (((l).length : Nat) : Int), FnOK Go.Proofs.Try.prog 86 (f86_broughamref04_Diff_in ((l.getD i.toNat (0, 0)).1) last) (f86_broughamref04_Diff_out r110_1), (decide ((r110_1 : Int) ≤ 0)) = false, (0 : Int) ≤ i ∧ i < (((l).length : Nat) : Int), (0 : Int) ≤ i ∧ i < (((l).length : Nat) : Int), FnOK Go.Proofs.Try.prog 86 (f86_broughamref04_Diff_in ((l.getD i.toNat (0, 0)).2) ((l.getD i.toNat (0, 0)).1)) (f86_broughamref04_Diff_out r110_4), (decide ((r110_4 : Int) ≤ 0)) = false, (0 : Int) ≤ i ∧ i < (((l).length : Nat) : Int), FnOK Go.Proofs.Try.prog 86 (f86_broughamref04_Diff_in ((l.getD i.toNat (0, 0)).2) wait) (f86_broughamref04_Diff_out r110_6), (decide ((r110_6 : Int) ≤ 0)) = true] (by kernel_rfl) ⟨g110_0, (f86_broughamref04_Diff_ok ((l.getD i.toNat (0, 0)).1) last r110_1 cr110_1), b110_8, g110_2, g110_3, (f86_broughamref04_Diff_ok ((l.getD i.toNat (0, 0)).2) ((l.getD i.toNat (0, 0)).1) r110_4 cr110_4), b110_22, g110_5, (f86_broughamref04_Diff_ok ((l.getD i.toNat (0, 0)).2) wait r110_6 cr110_6), b110_e0, trivial⟩ ?_
            have h := Option.some.inj h
            subst h
            have hk : o = f48_broughamref31_Right_out false := hk
            subst hk
            exact At.fin hm ht ⟨[], [], [], [4], []⟩ [] (by kernel_rfl) trivial
          · refine At.step hm ht ⟨[(6, .call [] [] (f86_broughamref04_Diff_out r110_1)), (8, .b false), (19, .call [] [] (f86_broughamref04_Diff_out r110_4)), (22, .b false), (29, .call [] [] (f86_broughamref04_Diff_out r110_6))], [false], [], [0, 1, 6], []⟩ 7 ⟨[(0, .one (.c (.d (.int .u32 wait)))), (1, .one (.c (.d (.sl (.pair (.int .u32) (.int .u32)) l)))), (6, .one (.c (.d (.int .i64 i))))], [], [], 0⟩ [(0 : Int) ≤ i ∧ i < (((l).length : Nat) : Int), FnOK Go.Proofs.Try.prog 86 (f86_broughamref04_Diff_in ((l.getD i.toNat (0, 0)).1) last) (f86_broughamref04_Diff_out r110_1), (decide ((r110_1 : Int) ≤ 0)) = false, (0 : Int) ≤ i ∧ i < (((l).length : Nat) : Int), (0 : Int) ≤ i ∧ i < (((l).length : Nat) : Int), FnOK Go.Proofs.Try.prog 86 (f86_broughamref04_Diff_in ((l.getD i.toNat (0, 0)).2) ((l.getD i.toNat (0, 0)).1)) (f86_broughamref04_Diff_out r110_4), (decide ((r110_4 : Int) ≤ 0)) = false, (0 : Int) ≤ i ∧ i < (((l).length : Nat) : Int), FnOK Go.Proofs.Try.prog 86 (f86_broughamref04_Diff_in ((l.getD i.toNat (0, 0)).2) wait) (f86_broughamref04_Diff_out r110_6), (decide ((r110_6 : Int) ≤ 0)) = false] (by kernel_rfl) ⟨g110_0, (f86_broughamref04_Diff_ok ((l.getD i.toNat (0, 0)).1) last r110_1 cr110_1), b110_8, g110_2, g110_3, (f86_broughamref04_Diff_ok ((l.getD i.toNat (0, 0)).2) ((l.getD i.toNat (0, 0)).1) r110_4 cr110_4), b110_22, g110_5, (f86_broughamref04_Diff_ok ((l.getD i.toNat (0, 0)).2) wait r110_6 cr110_6), b110_e0, trivial⟩ ?_
            obtain ⟨g126_0, h⟩ := ifS h
            refine At.step hm ht ⟨[], [], [], [0, 1, 5, 6], []⟩ 4 ⟨[(0, .one (.c (.d (.int .u32 wait)))), (1, .one (.c (.d (.sl (.pair (.int .u32) (.int .u32)) l)))), (5, .one (.c (.d (.int .u32 ((l.getD i.toNat (0, 0)).2))))), (6, .one (.c (.d (.int .i64 i))))], [], [], 0⟩ [(0 : Int) ≤ i ∧ i < (((l).length : Nat) : Int)] (by kernel_rfl) ⟨g126_0, trivial⟩ ?_
            refine At.step hm ht ⟨[], [], [], [0, 1, 5, 6], []⟩ 3 ⟨[(0, .one (.c (.d (.int .u32 wait)))), (1, .one (.c (.d (.sl (.pair (.int .u32) (.int .u32)) l)))), (5, .one (.c (.d (.int .u32 ((l.getD i.toNat (0, 0)).2))))), (6, .one (.c (.d (.int .i64 (IntKind.wrap .i64 (i + 1))))))], [], [], 0⟩ [] (by kernel_rfl) trivial ?_
            exact ih wait l ((l.getD i.toNat (0, 0)).2) (IntKind.wrap .i64 (i + 1)) w h o hk
    · refine At.step hm ht ⟨[], [false], [], [1], []⟩ 8 ⟨[(1, .one (.c (.d (.sl (.pair (.int .u32) (.int .u32)) l))))], [], [], 0⟩ [(decide ((i : Int) < ((l.length : Nat) : Int))) = false] (by kernel_rfl) ⟨b109_e0, trivial⟩ ?_
      have h := Option.some.inj h
      subst h
      exact hk
def f48_broughamref31_Right (n : Nat) (wait : Int) (l : List (Int × Int)) : Option (Bool) :=
  (f48_broughamref31_Right_L3 n wait l wait 0).bind fun w128 =>
  match w128 with
  | .inl e129 =>
    some e129
  | .inr e130 =>
    some (decide ((((e130.length : Nat) : Int) : Int) ≤ 4))
theorem f48_broughamref31_Right_ok (n : Nat) (wait : Int) (l : List (Int × Int)) (r : Bool) (h : f48_broughamref31_Right n wait l = some r) : FnOK Go.Proofs.Try.prog 48 (f48_broughamref31_Right_in wait l) (f48_broughamref31_Right_out r) := by
  unfold f48_broughamref31_Right at h
  refine At.fn (r := 0) Go.Proofs.Try.func48 rfl (by kernel_rfl) rfl rfl (by kernel_rfl) ?_
  show At Go.Proofs.Try.prog Go.Proofs.Try.f48 0 0 ⟨[(0, .one (.c (.d (.int .u32 wait)))), (1, .one (.c (.d (.sl (.pair (.int .u32) (.int .u32)) l))))], [], [], 0⟩ _
  refine At.step hm ht ⟨[], [], [], [0, 1], []⟩ 1 ⟨[(0, .one (.c (.d (.int .u32 wait)))), (1, .one (.c (.d (.sl (.pair (.int .u32) (.int .u32)) l))))], [], [], 0⟩ [] (by kernel_rfl) trivial ?_
  refine At.step hm ht ⟨[], [], [], [0, 1, 5], []⟩ 2 ⟨[(0, .one (.c (.d (.int .u32 wait)))), (1, .one (.c (.d (.sl (.pair (.int .u32) (.int .u32)) l)))), (5, .one (.c (.d (.int .u32 wait))))], [], [], 0⟩ [] (by kernel_rfl) trivial ?_
  refine At.step hm ht ⟨[], [], [], [0, 1, 5, 6], []⟩ 3 ⟨[(0, .one (.c (.d (.int .u32 wait)))), (1, .one (.c (.d (.sl (.pair (.int .u32) (.int .u32)) l)))), (5, .one (.c (.d (.int .u32 wait)))), (6, .one (.c (.d (.int .i64 0))))], [], [], 0⟩ [] (by kernel_rfl) trivial ?_
  obtain ⟨w128, cw128, h⟩ := bindS h
  refine f48_broughamref31_Right_L3_ok n wait l wait 0 w128 cw128 _ ?_
  rcases w128 with e129 | e130
  · have h := Option.some.inj h
    subst h
    rfl
  · show At Go.Proofs.Try.prog Go.Proofs.Try.f48 0 8 ⟨[(1, .one (.c (.d (.sl (.pair (.int .u32) (.int .u32)) e130))))], [], [], 0⟩ _
    have h := Option.some.inj h
    subst h
    exact At.fin hm ht ⟨[], [], [], [4], []⟩ [] (by kernel_rfl) trivial
/-! brougham/broughamref02.Put -/
def f82_broughamref02_Put_in (n_ : Int) (bytes : Int) : Inn := ⟨[.c (.d (.sl .unit [])), .c (.d (.int .u64 n_)), .c (.d (.int .i64 bytes))], [], [], 0⟩
def f82_broughamref02_Put_out (r : List Int) : Out := ⟨.one (.c (.own 0 (.int .u8) r)), [(0, ⟨5, 0⟩)], [], 1⟩
def f82_broughamref02_Put : Nat → Int → Int → Option (List Int)
  | 0, _, _ => none
  | n + 1, n_, bytes =>
    if (decide ((bytes : Int) < 1)) = true then
      some []
    else
      if (decide ((bytes : Int) > 8)) = true then
        some []
      else
        (f82_broughamref02_Put n (IntKind.wrap .u64 (Int.tdiv n_ 256)) (IntKind.wrap .i64 (bytes - 1))).bind fun r154_0 =>
        if r154_0.length + [(IntKind.wrap .u8 (Int.tmod n_ 256))].length ≤ maxLen ∧ (r154_0.length + [(IntKind.wrap .u8 (Int.tmod n_ 256))].length) * 1 ≤ 140737488355328 then
        some (r154_0 ++ [(IntKind.wrap .u8 (Int.tmod n_ 256))])
        else none
theorem f82_broughamref02_Put_ok (n : Nat) : ∀ (n_ : Int) (bytes : Int) (r : List Int) (h : f82_broughamref02_Put n n_ bytes = some r), FnOK Go.Proofs.Try.prog 82 (f82_broughamref02_Put_in n_ bytes) (f82_broughamref02_Put_out r) := by
  induction n with
  | zero => intro n_ bytes r h; rw [f82_broughamref02_Put] at h; cases h
  | succ n ih =>
    intro n_ bytes r h
    rw [f82_broughamref02_Put] at h
    refine At.fn (r := 0) Go.Proofs.Try.func82 rfl (by kernel_rfl) rfl rfl (by kernel_rfl) ?_
    show At Go.Proofs.Try.prog Go.Proofs.Try.f82 0 0 ⟨[(0, .one (.c (.d (.sl .unit [])))), (1, .one (.c (.d (.int .u64 n_)))), (2, .one (.c (.d (.int .i64 bytes))))], [], [], 0⟩ _
    refine At.step hm ht ⟨[], [], [], [0, 1, 2], []⟩ 1 ⟨[(0, .one (.c (.d (.sl .unit [])))), (1, .one (.c (.d (.int .u64 n_)))), (2, .one (.c (.d (.int .i64 bytes))))], [], [], 0⟩ [] (by kernel_rfl) trivial ?_
    rcases iteS h with ⟨b151_2, h⟩ | ⟨b151_2, h⟩
    · refine At.step hm ht ⟨[(2, .b true)], [true], [], [0], []⟩ 2 ⟨[(0, .one (.c (.d (.sl .unit []))))], [], [], 0⟩ [(decide ((bytes : Int) < 1)) = true, true = true] (by kernel_rfl) ⟨b151_2, rfl, trivial⟩ ?_
      have h := Option.some.inj h
      subst h
      exact At.fin hm ht ⟨[], [], [.nil false 6 0 (.int .u8) (some 5)], [6], [2]⟩ [] (by kernel_rfl) trivial
    · rcases iteS h with ⟨b151_e0, h⟩ | ⟨b151_e0, h⟩
      · refine At.step hm ht ⟨[(2, .b false)], [true], [], [0], []⟩ 2 ⟨[(0, .one (.c (.d (.sl .unit []))))], [], [], 0⟩ [(decide ((bytes : Int) < 1)) = false, (decide ((bytes : Int) > 8)) = true] (by kernel_rfl) ⟨b151_2, b151_e0, trivial⟩ ?_
        have h := Option.some.inj h
        subst h
        exact At.fin hm ht ⟨[], [], [.nil false 6 0 (.int .u8) (some 5)], [6], [2]⟩ [] (by kernel_rfl) trivial
      · refine At.step hm ht ⟨[(2, .b false)], [false], [], [0, 1, 2], []⟩ 3 ⟨[(0, .one (.c (.d (.sl .unit [])))), (1, .one (.c (.d (.int .u64 n_)))), (2, .one (.c (.d (.int .i64 bytes))))], [], [], 0⟩ [(decide ((bytes : Int) < 1)) = false, (decide ((bytes : Int) > 8)) = false] (by kernel_rfl) ⟨b151_2, b151_e0, trivial⟩ ?_
        obtain ⟨r154_0, cr154_0, h⟩ := bindS h
        refine At.step hm ht ⟨[(5, .call [] [] (f82_broughamref02_Put_out r154_0))], [], [], [0, 1], [5]⟩ 4 ⟨[(0, .one (.c (.own 0 (.int .u8) r154_0))), (1, .one (.c (.d (.int .u64 n_))))], [(0, some ⟨5, 0⟩)], [], 1⟩ [(256 : Int) ≠ 0, FnOK Go.Proofs.Try.prog 82 (f82_broughamref02_Put_in (IntKind.wrap .u64 (Int.tdiv n_ 256)) (IntKind.wrap .i64 (bytes - 1))) (f82_broughamref02_Put_out r154_0)] (by kernel_rfl) ⟨(by decide), (ih (IntKind.wrap .u64 (Int.tdiv n_ 256)) (IntKind.wrap .i64 (bytes - 1)) r154_0 cr154_0), trivial⟩ ?_
        obtain ⟨g155_0, h⟩ := ifS h
        have h := Option.some.inj h
        subst h
        exact At.fin hm ht ⟨[], [], [], [6], [6]⟩ [(256 : Int) ≠ 0, r154_0.length + [(IntKind.wrap .u8 (Int.tmod n_ 256))].length ≤ maxLen ∧ (r154_0.length + [(IntKind.wrap .u8 (Int.tmod n_ 256))].length) * 1 ≤ 140737488355328] (by kernel_rfl) ⟨(by decide), g155_0, trivial⟩
/-! brougham/broughamref02.Put -/
def f82_broughamref02_Put_v2_in (b : List Int) (n_ : Int) (bytes : Int) : Inn := ⟨[.c (.own 0 (.int .u8) b), .c (.d (.int .u64 n_)), .c (.d (.int .i64 bytes))], [(0, ⟨5, 0⟩)], [], 1⟩
def f82_broughamref02_Put_v2_out (r : List Int) : Out := ⟨.one (.c (.own 1 (.int .u8) r)), [(1, ⟨5, 0⟩)], [], 2⟩
def f82_broughamref02_Put_v2 : Nat → (List Int) → Int → Int → Option (List Int)
  | 0, _, _, _ => none
  | n + 1, b, n_, bytes =>
    if (decide ((bytes : Int) < 1)) = true then
      some b
    else
      if (decide ((bytes : Int) > 8)) = true then
        some b
      else
        (f82_broughamref02_Put_v2 n b (IntKind.wrap .u64 (Int.tdiv n_ 256)) (IntKind.wrap .i64 (bytes - 1))).bind fun r166_0 =>
        if r166_0.length + [(IntKind.wrap .u8 (Int.tmod n_ 256))].length ≤ maxLen ∧ (r166_0.length + [(IntKind.wrap .u8 (Int.tmod n_ 256))].length) * 1 ≤ 140737488355328 then
        some (r166_0 ++ [(IntKind.wrap .u8 (Int.tmod n_ 256))])
        else none
theorem f82_broughamref02_Put_v2_ok (n : Nat) : ∀ (b : List Int) (n_ : Int) (bytes : Int) (r : List Int) (h : f82_broughamref02_Put_v2 n b n_ bytes = some r), FnOK Go.Proofs.Try.prog 82 (f82_broughamref02_Put_v2_in b n_ bytes) (f82_broughamref02_Put_v2_out r) := by
  induction n with
  | zero => intro b n_ bytes r h; rw [f82_broughamref02_Put_v2] at h; cases h
  | succ n ih =>
    intro b n_ bytes r h
    rw [f82_broughamref02_Put_v2] at h
    refine At.fn (r := 0) Go.Proofs.Try.func82 rfl (by kernel_rfl) rfl rfl (by kernel_rfl) ?_
    show At Go.Proofs.Try.prog Go.Proofs.Try.f82 1 0 ⟨[(0, .one (.c (.own 0 (.int .u8) b))), (1, .one (.c (.d (.int .u64 n_)))), (2, .one (.c (.d (.int .i64 bytes))))], [(0, some ⟨5, 0⟩)], [], 1⟩ _
    refine At.step hm ht ⟨[], [], [], [0, 1, 2], [0]⟩ 1 ⟨[(0, .one (.c (.own 0 (.int .u8) b))), (1, .one (.c (.d (.int .u64 n_)))), (2, .one (.c (.d (.int .i64 bytes))))], [(0, some ⟨5, 0⟩)], [], 1⟩ [] (by kernel_rfl) trivial ?_
    rcases iteS h with ⟨b163_2, h⟩ | ⟨b163_2, h⟩
    · refine At.step hm ht ⟨[(2, .b true)], [true], [], [0], [0]⟩ 2 ⟨[(0, .one (.c (.own 0 (.int .u8) b)))], [(0, some ⟨5, 0⟩)], [], 1⟩ [(decide ((bytes : Int) < 1)) = true, true = true] (by kernel_rfl) ⟨b163_2, rfl, trivial⟩ ?_
      have h := Option.some.inj h
      subst h
      exact At.fin hm ht ⟨[], [], [.mv 0 6 0], [6], [0, 3]⟩ [] (by kernel_rfl) trivial
    · rcases iteS h with ⟨b163_e0, h⟩ | ⟨b163_e0, h⟩
      · refine At.step hm ht ⟨[(2, .b false)], [true], [], [0], [0]⟩ 2 ⟨[(0, .one (.c (.own 0 (.int .u8) b)))], [(0, some ⟨5, 0⟩)], [], 1⟩ [(decide ((bytes : Int) < 1)) = false, (decide ((bytes : Int) > 8)) = true] (by kernel_rfl) ⟨b163_2, b163_e0, trivial⟩ ?_
        have h := Option.some.inj h
        subst h
        exact At.fin hm ht ⟨[], [], [.mv 0 6 0], [6], [0, 3]⟩ [] (by kernel_rfl) trivial
      · refine At.step hm ht ⟨[(2, .b false)], [false], [], [0, 1, 2], [0]⟩ 3 ⟨[(0, .one (.c (.own 0 (.int .u8) b))), (1, .one (.c (.d (.int .u64 n_)))), (2, .one (.c (.d (.int .i64 bytes))))], [(0, some ⟨5, 0⟩)], [], 1⟩ [(decide ((bytes : Int) < 1)) = false, (decide ((bytes : Int) > 8)) = false] (by kernel_rfl) ⟨b163_2, b163_e0, trivial⟩ ?_
        obtain ⟨r166_0, cr166_0, h⟩ := bindS h
        refine At.step hm ht ⟨[(5, .call [0] [] (f82_broughamref02_Put_v2_out r166_0))], [], [], [0, 1], [0, 7]⟩ 4 ⟨[(0, .one (.c (.own 1 (.int .u8) r166_0))), (1, .one (.c (.d (.int .u64 n_))))], [(1, some ⟨5, 0⟩)], [], 2⟩ [(256 : Int) ≠ 0, FnOK Go.Proofs.Try.prog 82 (f82_broughamref02_Put_v2_in b (IntKind.wrap .u64 (Int.tdiv n_ 256)) (IntKind.wrap .i64 (bytes - 1))) (f82_broughamref02_Put_v2_out r166_0)] (by kernel_rfl) ⟨(by decide), (ih b (IntKind.wrap .u64 (Int.tdiv n_ 256)) (IntKind.wrap .i64 (bytes - 1)) r166_0 cr166_0), trivial⟩ ?_
        obtain ⟨g167_0, h⟩ := ifS h
        have h := Option.some.inj h
        subst h
        exact At.fin hm ht ⟨[], [], [], [6], [0, 7]⟩ [(256 : Int) ≠ 0, r166_0.length + [(IntKind.wrap .u8 (Int.tmod n_ 256))].length ≤ maxLen ∧ (r166_0.length + [(IntKind.wrap .u8 (Int.tmod n_ 256))].length) * 1 ≤ 140737488355328] (by kernel_rfl) ⟨(by decide), g167_0, trivial⟩
/-! brougham/broughamref31.Option -/
def f40_broughamref31_Option_in (wait : Int) (l : List (Int × Int)) : Inn := ⟨[.c (.d (.int .u32 wait)), .c (.d (.sl (.pair (.int .u32) (.int .u32)) l))], [], [], 0⟩
def f40_broughamref31_Option_out (r : List Int × Bool) : Out := ⟨.tup [.c (.own 0 (.int .u8) r.1), .c (.d (.bool r.2))], [(0, ⟨5, 0⟩)], [], 1⟩
def f40_broughamref31_Option_L6 : Nat → (List (Int × Int)) → (List Int) → Int → Int → Option (List Int)
  | 0, _, _, _, _ => none
  | n + 1, l, b, last, i =>
    if (decide ((i : Int) < ((l.length : Nat) : Int))) = true then
      if (0 : Int) ≤ i ∧ i < (((l).length : Nat) : Int) then
      (f82_broughamref02_Put_v2 n b (IntKind.wrap .u64 (IntKind.wrap .u32 (((l.getD i.toNat (0, 0)).1) - last))) 4).bind fun r192_1 =>
      if (0 : Int) ≤ i ∧ i < (((l).length : Nat) : Int) then
      if (0 : Int) ≤ i ∧ i < (((l).length : Nat) : Int) then
      (f82_broughamref02_Put_v2 n r192_1 (IntKind.wrap .u64 (IntKind.wrap .u32 (((l.getD i.toNat (0, 0)).2) - ((l.getD i.toNat (0, 0)).1)))) 4).bind fun r192_4 =>
      if (0 : Int) ≤ i ∧ i < (((l).length : Nat) : Int) then
      f40_broughamref31_Option_L6 n l r192_4 ((l.getD i.toNat (0, 0)).2) (IntKind.wrap .i64 (i + 1))
      else none
      else none
      else none
      else none
    else
      some (b)
def f40_broughamref31_Option_L6_k (e : List Int) (o : Out) : Prop := At Go.Proofs.Try.prog Go.Proofs.Try.f40 0 10 ⟨[(6, .one (.c (.own 0 (.int .u8) e)))], [(0, some ⟨5, 0⟩)], [], 1⟩ o
theorem f40_broughamref31_Option_L6_ok (n : Nat) : ∀ (l : List (Int × Int)) (b : List Int) (last : Int) (i : Int) (w : List Int) (h : f40_broughamref31_Option_L6 n l b last i = some w) (o : Out) (hk : f40_broughamref31_Option_L6_k w o), At Go.Proofs.Try.prog Go.Proofs.Try.f40 0 6 ⟨[(1, .one (.c (.d (.sl (.pair (.int .u32) (.int .u32)) l)))), (6, .one (.c (.own 0 (.int .u8) b))), (7, .one (.c (.d (.int .u32 last)))), (8, .one (.c (.d (.int .i64 i))))], [(0, some ⟨5, 0⟩)], [], 1⟩ o := by
  induction n with
  | zero => intro l b last i w h; rw [f40_broughamref31_Option_L6] at h; cases h
  | succ n ih =>
    intro l b last i w h o hk
    rw [f40_broughamref31_Option_L6] at h
    rcases iteS h with ⟨b191_e0, h⟩ | ⟨b191_e0, h⟩
    · refine At.step hm ht ⟨[], [true], [], [1, 6, 7, 8], [0]⟩ 8 ⟨[(1, .one (.c (.d (.sl (.pair (.int .u32) (.int .u32)) l)))), (6, .one (.c (.own 0 (.int .u8) b))), (7, .one (.c (.d (.int .u32 last)))), (8, .one (.c (.d (.int .i64 i))))], [(0, some ⟨5, 0⟩)], [], 1⟩ [(decide ((i : Int) < ((l.length : Nat) : Int))) = true] (by kernel_rfl) ⟨b191_e0, trivial⟩ ?_
      obtain ⟨g192_0, h⟩ := ifS h
      obtain ⟨r192_1, cr192_1, h⟩ := bindS h
      obtain ⟨g192_2, h⟩ := ifS h
      obtain ⟨g192_3, h⟩ := ifS h
      obtain ⟨r192_4, cr192_4, h⟩ := bindS h
      refine At.step hm ht ⟨[(9, .call [0] [] (f82_broughamref02_Put_v2_out r192_1)), (22, .call [11] [] (f82_broughamref02_Put_v2_out r192_4))], [], [], [1, 6, 8], [25]⟩ 9 ⟨[(1, .one (.c (.d (.sl (.pair (.int .u32) (.int .u32)) l)))), (6, .one (.c (.own 0 (.int .u8) r192_4))), (8, .one (.c (.d (.int .i64 i))))], [(0, some ⟨5, 0⟩)], [], 1⟩ [(0 : Int) ≤ i ∧ i < (((l).length : Nat) : Int), FnOK Go.Proofs.Try.prog 82 (f82_broughamref02_Put_v2_in b (IntKind.wrap .u64 (IntKind.wrap .u32 (((l.getD i.toNat (0, 0)).1) - last))) 4) (f82_broughamref02_Put_v2_out r192_1), (0 : Int) ≤ i ∧ i < (((l).length : Nat) : Int), (0 : Int) ≤ i ∧ i < (((l).length : Nat) : Int), FnOK Go.Proofs.Try.prog 82 (f82_broughamref02_Put_v2_in r192_1 (IntKind.wrap .u64 (IntKind.wrap .u32 (((l.getD i.toNat (0, 0)).2) - ((l.getD i.toNat (0, 0)).1)))) 4) (f82_broughamref02_Put_v2_out r192_4)] (by kernel_rfl) ⟨g192_0, (f82_broughamref02_Put_v2_ok n b (IntKind.wrap .u64 (IntKind.wrap .u32 (((l.getD i.toNat (0, 0)).1) - last))) 4 r192_1 cr192_1), g192_2, g192_3, (f82_broughamref02_Put_v2_ok n r192_1 (IntKind.wrap .u64 (IntKind.wrap .u32 (((l.getD i.toNat (0, 0)).2) - ((l.getD i.toNat (0, 0)).1)))) 4 r192_4 cr192_4), trivial⟩ ?_
      obtain ⟨g193_0, h⟩ := ifS h
      refine At.step hm ht ⟨[], [], [], [1, 6, 7, 8], [0]⟩ 7 ⟨[(1, .one (.c (.d (.sl (.pair (.int .u32) (.int .u32)) l)))), (6, .one (.c (.own 0 (.int .u8) r192_4))), (7, .one (.c (.d (.int .u32 ((l.getD i.toNat (0, 0)).2))))), (8, .one (.c (.d (.int .i64 i))))], [(0, some ⟨5, 0⟩)], [], 1⟩ [(0 : Int) ≤ i ∧ i < (((l).length : Nat) : Int)] (by kernel_rfl) ⟨g193_0, trivial⟩ ?_
      refine At.step hm ht ⟨[], [], [], [1, 6, 7, 8], [0]⟩ 6 ⟨[(1, .one (.c (.d (.sl (.pair (.int .u32) (.int .u32)) l)))), (6, .one (.c (.own 0 (.int .u8) r192_4))), (7, .one (.c (.d (.int .u32 ((l.getD i.toNat (0, 0)).2))))), (8, .one (.c (.d (.int .i64 (IntKind.wrap .i64 (i + 1))))))], [(0, some ⟨5, 0⟩)], [], 1⟩ [] (by kernel_rfl) trivial ?_
      exact ih l r192_4 ((l.getD i.toNat (0, 0)).2) (IntKind.wrap .i64 (i + 1)) w h o hk
    · refine At.step hm ht ⟨[], [false], [], [6], [0]⟩ 10 ⟨[(6, .one (.c (.own 0 (.int .u8) b)))], [(0, some ⟨5, 0⟩)], [], 1⟩ [(decide ((i : Int) < ((l.length : Nat) : Int))) = false] (by kernel_rfl) ⟨b191_e0, trivial⟩ ?_
      have h := Option.some.inj h
      subst h
      exact hk
def f40_broughamref31_Option (n : Nat) (wait : Int) (l : List (Int × Int)) : Option (List Int × Bool) :=
  if ((((l.length : Nat) : Int) : Int) == 0) = true then
    some ([], false)
  else
    (f48_broughamref31_Right n wait l).bind fun r185_0 =>
    if (!r185_0) = true then
      some ([], false)
    else
      (f40_broughamref31_Option_L6 n l [] wait 0).bind fun w195 =>
      some (w195, true)
theorem f40_broughamref31_Option_ok (n : Nat) (wait : Int) (l : List (Int × Int)) (r : List Int × Bool) (h : f40_broughamref31_Option n wait l = some r) : FnOK Go.Proofs.Try.prog 40 (f40_broughamref31_Option_in wait l) (f40_broughamref31_Option_out r) := by
  unfold f40_broughamref31_Option at h
  refine At.fn (r := 0) Go.Proofs.Try.func40 rfl (by kernel_rfl) rfl rfl (by kernel_rfl) ?_
  show At Go.Proofs.Try.prog Go.Proofs.Try.f40 0 0 ⟨[(0, .one (.c (.d (.int .u32 wait)))), (1, .one (.c (.d (.sl (.pair (.int .u32) (.int .u32)) l))))], [], [], 0⟩ _
  refine At.step hm ht ⟨[], [], [], [0, 1], []⟩ 1 ⟨[(0, .one (.c (.d (.int .u32 wait)))), (1, .one (.c (.d (.sl (.pair (.int .u32) (.int .u32)) l))))], [], [], 0⟩ [] (by kernel_rfl) trivial ?_
  rcases iteS h with ⟨b185_3, h⟩ | ⟨b185_3, h⟩
  · refine At.step hm ht ⟨[(3, .b true)], [true], [], [], []⟩ 2 ⟨[], [], [], 0⟩ [((((l.length : Nat) : Int) : Int) == 0) = true, true = true] (by kernel_rfl) ⟨b185_3, rfl, trivial⟩ ?_
    have h := Option.some.inj h
    subst h
    exact At.fin hm ht ⟨[], [], [.nil false 4 0 (.int .u8) (some 5)], [4, 5], [2]⟩ [] (by kernel_rfl) trivial
  · obtain ⟨r185_0, cr185_0, h⟩ := bindS h
    rcases iteS h with ⟨b185_e0, h⟩ | ⟨b185_e0, h⟩
    · refine At.step hm ht ⟨[(3, .b false), (6, .call [] [] (f48_broughamref31_Right_out r185_0))], [true], [], [], []⟩ 2 ⟨[], [], [], 0⟩ [((((l.length : Nat) : Int) : Int) == 0) = false, FnOK Go.Proofs.Try.prog 48 (f48_broughamref31_Right_in wait l) (f48_broughamref31_Right_out r185_0), (!r185_0) = true] (by kernel_rfl) ⟨b185_3, (f48_broughamref31_Right_ok n wait l r185_0 cr185_0), b185_e0, trivial⟩ ?_
      have h := Option.some.inj h
      subst h
      exact At.fin hm ht ⟨[], [], [.nil false 4 0 (.int .u8) (some 5)], [4, 5], [2]⟩ [] (by kernel_rfl) trivial
    · refine At.step hm ht ⟨[(3, .b false), (6, .call [] [] (f48_broughamref31_Right_out r185_0))], [false], [], [0, 1], []⟩ 3 ⟨[(0, .one (.c (.d (.int .u32 wait)))), (1, .one (.c (.d (.sl (.pair (.int .u32) (.int .u32)) l))))], [], [], 0⟩ [((((l.length : Nat) : Int) : Int) == 0) = false, FnOK Go.Proofs.Try.prog 48 (f48_broughamref31_Right_in wait l) (f48_broughamref31_Right_out r185_0), (!r185_0) = false] (by kernel_rfl) ⟨b185_3, (f48_broughamref31_Right_ok n wait l r185_0 cr185_0), b185_e0, trivial⟩ ?_
      refine At.step hm ht ⟨[], [], [], [0, 1, 6], []⟩ 4 ⟨[(0, .one (.c (.d (.int .u32 wait)))), (1, .one (.c (.d (.sl (.pair (.int .u32) (.int .u32)) l)))), (6, .one (.c (.d (.sl .unit []))))], [], [], 0⟩ [] (by kernel_rfl) trivial ?_
      refine At.step hm ht ⟨[], [], [], [1, 6, 7], []⟩ 5 ⟨[(1, .one (.c (.d (.sl (.pair (.int .u32) (.int .u32)) l)))), (6, .one (.c (.d (.sl .unit [])))), (7, .one (.c (.d (.int .u32 wait))))], [], [], 0⟩ [] (by kernel_rfl) trivial ?_
      refine At.step hm ht ⟨[], [], [.nil false 6 0 (.int .u8) (some 5)], [1, 6, 7, 8], [1]⟩ 6 ⟨[(1, .one (.c (.d (.sl (.pair (.int .u32) (.int .u32)) l)))), (6, .one (.c (.own 0 (.int .u8) []))), (7, .one (.c (.d (.int .u32 wait)))), (8, .one (.c (.d (.int .i64 0))))], [(0, some ⟨5, 0⟩)], [], 1⟩ [] (by kernel_rfl) trivial ?_
      obtain ⟨w195, cw195, h⟩ := bindS h
      refine f40_broughamref31_Option_L6_ok n l [] wait 0 w195 cw195 _ ?_
      show At Go.Proofs.Try.prog Go.Proofs.Try.f40 0 10 ⟨[(6, .one (.c (.own 0 (.int .u8) w195)))], [(0, some ⟨5, 0⟩)], [], 1⟩ _
      have h := Option.some.inj h
      subst h
      exact At.fin hm ht ⟨[], [], [], [4, 5], [0]⟩ [] (by kernel_rfl) trivial
/-! brougham/pack.Get -/
def f84_pack_Get_in (b : List Int) (sizes : List Int) : Inn := ⟨[.c (.d (.sl (.int .u8) b)), .c (.d (.sl (.int .i64) sizes))], [], [], 0⟩
def f84_pack_Get_out (r : List Int × List Int × Bool) : Out := ⟨.tup [.c (.own 0 (.int .u64) r.1), .c (.own 1 (.int .u8) r.2.1), .c (.d (.bool r.2.2))], [(0, ⟨22, 0⟩), (1, ⟨5, 0⟩)], [], 2⟩
def f84_pack_Get_L9 : Nat → (List Int) → (List Int) → Int → Int → (List Int) → Int → Int → (List Int) → Int → Int → Option (List Int × List Int × Int × Int × List Int × Int × Int)
  | 0, _, _, _, _, _, _, _, _, _, _ => none
  | n + 1, b, out, n_, x, t13, t14, t15, t33, t34, t35 =>
    if (decide ((t35 : Int) < t34)) = true then
      if (0 : Int) ≤ t35 ∧ t35 < (((t33).length : Nat) : Int) then
      f84_pack_Get_L9 n b out n_ (bits .or .u64 (IntKind.wrap .u64 (x * 2 ^ 8)) (IntKind.wrap .u64 (t33.getD t35.toNat 0))) t13 t14 t15 t33 t34 (IntKind.wrap .i64 (t35 + 1))
      else none
    else
      some ((b, out, n_, x, t13, t14, t15))
def f84_pack_Get_L9_k (e : List Int × List Int × Int × Int × List Int × Int × Int) (o : Out) : Prop := At Go.Proofs.Try.prog Go.Proofs.Try.f84 0 13 ⟨[(0, .one (.c (.d (.sl (.int .u8) e.1)))), (7, .one (.c (.own 0 (.int .u64) e.2.1))), (9, .one (.c (.d (.int .i64 e.2.2.1)))), (10, .one (.c (.d (.int .u64 e.2.2.2.1)))), (13, .one (.c (.d (.sl (.int .i64) e.2.2.2.2.1)))), (14, .one (.c (.d (.int .i64 e.2.2.2.2.2.1)))), (15, .one (.c (.d (.int .i64 e.2.2.2.2.2.2))))], [(0, some ⟨22, 0⟩)], [], 1⟩ o
theorem f84_pack_Get_L9_ok (n : Nat) : ∀ (b : List Int) (out : List Int) (n_ : Int) (x : Int) (t13 : List Int) (t14 : Int) (t15 : Int) (t33 : List Int) (t34 : Int) (t35 : Int) (w : List Int × List Int × Int × Int × List Int × Int × Int) (h : f84_pack_Get_L9 n b out n_ x t13 t14 t15 t33 t34 t35 = some w) (o : Out) (hk : f84_pack_Get_L9_k w o), At Go.Proofs.Try.prog Go.Proofs.Try.f84 0 9 ⟨[(0, .one (.c (.d (.sl (.int .u8) b)))), (7, .one (.c (.own 0 (.int .u64) out))), (9, .one (.c (.d (.int .i64 n_)))), (10, .one (.c (.d (.int .u64 x)))), (13, .one (.c (.d (.sl (.int .i64) t13)))), (14, .one (.c (.d (.int .i64 t14)))), (15, .one (.c (.d (.int .i64 t15)))), (33, .one (.c (.d (.sl (.int .u8) t33)))), (34, .one (.c (.d (.int .i64 t34)))), (35, .one (.c (.d (.int .i64 t35))))], [(0, some ⟨22, 0⟩)], [], 1⟩ o := by
  induction n with
  | zero => intro b out n_ x t13 t14 t15 t33 t34 t35 w h; rw [f84_pack_Get_L9] at h; cases h
  | succ n ih =>
    intro b out n_ x t13 t14 t15 t33 t34 t35 w h o hk
    rw [f84_pack_Get_L9] at h
    rcases iteS h with ⟨b278_e0, h⟩ | ⟨b278_e0, h⟩
    · refine At.step hm ht ⟨[], [true], [], [0, 7, 9, 10, 13, 14, 15, 33, 34, 35], [0]⟩ 10 ⟨[(0, .one (.c (.d (.sl (.int .u8) b)))), (7, .one (.c (.own 0 (.int .u64) out))), (9, .one (.c (.d (.int .i64 n_)))), (10, .one (.c (.d (.int .u64 x)))), (13, .one (.c (.d (.sl (.int .i64) t13)))), (14, .one (.c (.d (.int .i64 t14)))), (15, .one (.c (.d (.int .i64 t15)))), (33, .one (.c (.d (.sl (.int .u8) t33)))), (34, .one (.c (.d (.int .i64 t34)))), (35, .one (.c (.d (.int .i64 t35))))], [(0, some ⟨22, 0⟩)], [], 1⟩ [(decide ((t35 : Int) < t34)) = true] (by kernel_rfl) ⟨b278_e0, trivial⟩ ?_
      obtain ⟨g279_0, h⟩ := ifS h
      refine At.step hm ht ⟨[], [], [], [0, 7, 9, 10, 12, 13, 14, 15, 33, 34, 35], [0]⟩ 11 ⟨[(0, .one (.c (.d (.sl (.int .u8) b)))), (7, .one (.c (.own 0 (.int .u64) out))), (9, .one (.c (.d (.int .i64 n_)))), (10, .one (.c (.d (.int .u64 x)))), (12, .one (.c (.d (.int .u8 (t33.getD t35.toNat 0))))), (13, .one (.c (.d (.sl (.int .i64) t13)))), (14, .one (.c (.d (.int .i64 t14)))), (15, .one (.c (.d (.int .i64 t15)))), (33, .one (.c (.d (.sl (.int .u8) t33)))), (34, .one (.c (.d (.int .i64 t34)))), (35, .one (.c (.d (.int .i64 t35))))], [(0, some ⟨22, 0⟩)], [], 1⟩ [(0 : Int) ≤ t35 ∧ t35 < (((t33).length : Nat) : Int)] (by kernel_rfl) ⟨g279_0, trivial⟩ ?_
      refine At.step hm ht ⟨[], [], [], [0, 7, 9, 10, 13, 14, 15, 33, 34, 35], [0]⟩ 12 ⟨[(0, .one (.c (.d (.sl (.int .u8) b)))), (7, .one (.c (.own 0 (.int .u64) out))), (9, .one (.c (.d (.int .i64 n_)))), (10, .one (.c (.d (.int .u64 (bits .or .u64 (IntKind.wrap .u64 (x * 2 ^ 8)) (IntKind.wrap .u64 (t33.getD t35.toNat 0))))))), (13, .one (.c (.d (.sl (.int .i64) t13)))), (14, .one (.c (.d (.int .i64 t14)))), (15, .one (.c (.d (.int .i64 t15)))), (33, .one (.c (.d (.sl (.int .u8) t33)))), (34, .one (.c (.d (.int .i64 t34)))), (35, .one (.c (.d (.int .i64 t35))))], [(0, some ⟨22, 0⟩)], [], 1⟩ [(0 : Int) ≤ 8] (by kernel_rfl) ⟨(by decide), trivial⟩ ?_
      refine At.step hm ht ⟨[], [], [], [0, 7, 9, 10, 13, 14, 15, 33, 34, 35], [0]⟩ 9 ⟨[(0, .one (.c (.d (.sl (.int .u8) b)))), (7, .one (.c (.own 0 (.int .u64) out))), (9, .one (.c (.d (.int .i64 n_)))), (10, .one (.c (.d (.int .u64 (bits .or .u64 (IntKind.wrap .u64 (x * 2 ^ 8)) (IntKind.wrap .u64 (t33.getD t35.toNat 0))))))), (13, .one (.c (.d (.sl (.int .i64) t13)))), (14, .one (.c (.d (.int .i64 t14)))), (15, .one (.c (.d (.int .i64 t15)))), (33, .one (.c (.d (.sl (.int .u8) t33)))), (34, .one (.c (.d (.int .i64 t34)))), (35, .one (.c (.d (.int .i64 (IntKind.wrap .i64 (t35 + 1))))))], [(0, some ⟨22, 0⟩)], [], 1⟩ [] (by kernel_rfl) trivial ?_
      exact ih b out n_ (bits .or .u64 (IntKind.wrap .u64 (x * 2 ^ 8)) (IntKind.wrap .u64 (t33.getD t35.toNat 0))) t13 t14 t15 t33 t34 (IntKind.wrap .i64 (t35 + 1)) w h o hk
    · refine At.step hm ht ⟨[], [false], [], [0, 7, 9, 10, 13, 14, 15], [0]⟩ 13 ⟨[(0, .one (.c (.d (.sl (.int .u8) b)))), (7, .one (.c (.own 0 (.int .u64) out))), (9, .one (.c (.d (.int .i64 n_)))), (10, .one (.c (.d (.int .u64 x)))), (13, .one (.c (.d (.sl (.int .i64) t13)))), (14, .one (.c (.d (.int .i64 t14)))), (15, .one (.c (.d (.int .i64 t15))))], [(0, some ⟨22, 0⟩)], [], 1⟩ [(decide ((t35 : Int) < t34)) = false] (by kernel_rfl) ⟨b278_e0, trivial⟩ ?_
      have h := Option.some.inj h
      subst h
      exact hk
def f84_pack_Get_L3 : Nat → (List Int) → (List Int) → (List Int) → Int → Int → Option ((List Int × List Int × Bool) ⊕ (List Int × List Int))
  | 0, _, _, _, _, _ => none
  | n + 1, b, out, t13, t14, t15 =>
    if (decide ((t15 : Int) < t14)) = true then
      if (0 : Int) ≤ t15 ∧ t15 < (((t13).length : Nat) : Int) then
      if (decide (((t13.getD t15.toNat 0) : Int) < 1)) = true then
        some (.inl ([], [], false))
      else
        if (decide (((t13.getD t15.toNat 0) : Int) > 8)) = true then
          some (.inl ([], [], false))
        else
          if (decide (((t13.getD t15.toNat 0) : Int) > ((b.length : Nat) : Int))) = true then
            some (.inl ([], [], false))
          else
            if cutOk b.length none (some (t13.getD t15.toNat 0)) none then
            (f84_pack_Get_L9 n b out (t13.getD t15.toNat 0) 0 t13 t14 t15 (b.take (t13.getD t15.toNat 0).toNat) (((b.take (t13.getD t15.toNat 0).toNat).length : Nat) : Int) 0).bind fun w282 =>
            if w282.2.1.length + [w282.2.2.2.1].length ≤ maxLen ∧ (w282.2.1.length + [w282.2.2.2.1].length) * 8 ≤ 140737488355328 then
            if cutOk w282.1.length (some w282.2.2.1) none none then
            f84_pack_Get_L3 n ((w282.1.take w282.1.length).drop w282.2.2.1.toNat) (w282.2.1 ++ [w282.2.2.2.1]) w282.2.2.2.2.1 w282.2.2.2.2.2.1 (IntKind.wrap .i64 (w282.2.2.2.2.2.2 + 1))
            else none
            else none
            else none
      else none
    else
      some (.inr ((b, out)))
def f84_pack_Get_L3_k (w : (List Int × List Int × Bool) ⊕ (List Int × List Int)) (o : Out) : Prop := match w with
  | .inl e => o = f84_pack_Get_out e
  | .inr e => At Go.Proofs.Try.prog Go.Proofs.Try.f84 0 16 ⟨[(0, .one (.c (.d (.sl (.int .u8) e.1)))), (7, .one (.c (.own 0 (.int .u64) e.2)))], [(0, some ⟨22, 0⟩)], [], 1⟩ o
theorem f84_pack_Get_L3_ok (n : Nat) : ∀ (b : List Int) (out : List Int) (t13 : List Int) (t14 : Int) (t15 : Int) (w : (List Int × List Int × Bool) ⊕ (List Int × List Int)) (h : f84_pack_Get_L3 n b out t13 t14 t15 = some w) (o : Out) (hk : f84_pack_Get_L3_k w o), At Go.Proofs.Try.prog Go.Proofs.Try.f84 0 3 ⟨[(0, .one (.c (.d (.sl (.int .u8) b)))), (7, .one (.c (.own 0 (.int .u64) out))), (13, .one (.c (.d (.sl (.int .i64) t13)))), (14, .one (.c (.d (.int .i64 t14)))), (15, .one (.c (.d (.int .i64 t15))))], [(0, some ⟨22, 0⟩)], [], 1⟩ o := by
  induction n with
  | zero => intro b out t13 t14 t15 w h; rw [f84_pack_Get_L3] at h; cases h
  | succ n ih =>
    intro b out t13 t14 t15 w h o hk
    rw [f84_pack_Get_L3] at h
    rcases iteS h with ⟨b270_e0, h⟩ | ⟨b270_e0, h⟩
    · refine At.step hm ht ⟨[], [true], [], [0, 7, 13, 14, 15], [0]⟩ 4 ⟨[(0, .one (.c (.d (.sl (.int .u8) b)))), (7, .one (.c (.own 0 (.int .u64) out))), (13, .one (.c (.d (.sl (.int .i64) t13)))), (14, .one (.c (.d (.int .i64 t14)))), (15, .one (.c (.d (.int .i64 t15))))], [(0, some ⟨22, 0⟩)], [], 1⟩ [(decide ((t15 : Int) < t14)) = true] (by kernel_rfl) ⟨b270_e0, trivial⟩ ?_
      obtain ⟨g271_0, h⟩ := ifS h
      refine At.step hm ht ⟨[], [], [], [0, 7, 9, 13, 14, 15], [0]⟩ 5 ⟨[(0, .one (.c (.d (.sl (.int .u8) b)))), (7, .one (.c (.own 0 (.int .u64) out))), (9, .one (.c (.d (.int .i64 (t13.getD t15.toNat 0))))), (13, .one (.c (.d (.sl (.int .i64) t13)))), (14, .one (.c (.d (.int .i64 t14)))), (15, .one (.c (.d (.int .i64 t15))))], [(0, some ⟨22, 0⟩)], [], 1⟩ [(0 : Int) ≤ t15 ∧ t15 < (((t13).length : Nat) : Int)] (by kernel_rfl) ⟨g271_0, trivial⟩ ?_
      rcases iteS h with ⟨b272_2, h⟩ | ⟨b272_2, h⟩
      · refine At.step hm ht ⟨[(2, .b true)], [true], [], [], []⟩ 6 ⟨[], [], [], 0⟩ [(decide (((t13.getD t15.toNat 0) : Int) < 1)) = true, true = true] (by kernel_rfl) ⟨b272_2, rfl, trivial⟩ ?_
        have h := Option.some.inj h
        subst h
        have hk : o = f84_pack_Get_out ([], [], false) := hk
        subst hk
        exact At.fin hm ht ⟨[], [], [.nil false 4 0 (.int .u64) (some 22), .nil false 5 0 (.int .u8) (some 5)], [4, 5, 6], [3, 4]⟩ [] (by kernel_rfl) trivial
      · rcases iteS h with ⟨b272_6, h⟩ | ⟨b272_6, h⟩
        · refine At.step hm ht ⟨[(2, .b false), (6, .b true)], [true], [], [], []⟩ 6 ⟨[], [], [], 0⟩ [(decide (((t13.getD t15.toNat 0) : Int) < 1)) = false, (decide (((t13.getD t15.toNat 0) : Int) > 8)) = true, true = true] (by kernel_rfl) ⟨b272_2, b272_6, rfl, trivial⟩ ?_
          have h := Option.some.inj h
          subst h
          have hk : o = f84_pack_Get_out ([], [], false) := hk
          subst hk
          exact At.fin hm ht ⟨[], [], [.nil false 4 0 (.int .u64) (some 22), .nil false 5 0 (.int .u8) (some 5)], [4, 5, 6], [3, 4]⟩ [] (by kernel_rfl) trivial
        · rcases iteS h with ⟨b272_e0, h⟩ | ⟨b272_e0, h⟩
          · refine At.step hm ht ⟨[(2, .b false), (6, .b false)], [true], [], [], []⟩ 6 ⟨[], [], [], 0⟩ [(decide (((t13.getD t15.toNat 0) : Int) < 1)) = false, (decide (((t13.getD t15.toNat 0) : Int) > 8)) = false, (decide (((t13.getD t15.toNat 0) : Int) > ((b.length : Nat) : Int))) = true] (by kernel_rfl) ⟨b272_2, b272_6, b272_e0, trivial⟩ ?_
            have h := Option.some.inj h
            subst h
            have hk : o = f84_pack_Get_out ([], [], false) := hk
            subst hk
            exact At.fin hm ht ⟨[], [], [.nil false 4 0 (.int .u64) (some 22), .nil false 5 0 (.int .u8) (some 5)], [4, 5, 6], [3, 4]⟩ [] (by kernel_rfl) trivial
          · refine At.step hm ht ⟨[(2, .b false), (6, .b false)], [false], [], [0, 7, 9, 13, 14, 15], [0]⟩ 7 ⟨[(0, .one (.c (.d (.sl (.int .u8) b)))), (7, .one (.c (.own 0 (.int .u64) out))), (9, .one (.c (.d (.int .i64 (t13.getD t15.toNat 0))))), (13, .one (.c (.d (.sl (.int .i64) t13)))), (14, .one (.c (.d (.int .i64 t14)))), (15, .one (.c (.d (.int .i64 t15))))], [(0, some ⟨22, 0⟩)], [], 1⟩ [(decide (((t13.getD t15.toNat 0) : Int) < 1)) = false, (decide (((t13.getD t15.toNat 0) : Int) > 8)) = false, (decide (((t13.getD t15.toNat 0) : Int) > ((b.length : Nat) : Int))) = false] (by kernel_rfl) ⟨b272_2, b272_6, b272_e0, trivial⟩ ?_
            refine At.step hm ht ⟨[], [], [], [0, 7, 9, 10, 13, 14, 15], [0]⟩ 8 ⟨[(0, .one (.c (.d (.sl (.int .u8) b)))), (7, .one (.c (.own 0 (.int .u64) out))), (9, .one (.c (.d (.int .i64 (t13.getD t15.toNat 0))))), (10, .one (.c (.d (.int .u64 0)))), (13, .one (.c (.d (.sl (.int .i64) t13)))), (14, .one (.c (.d (.int .i64 t14)))), (15, .one (.c (.d (.int .i64 t15))))], [(0, some ⟨22, 0⟩)], [], 1⟩ [] (by kernel_rfl) trivial ?_
            obtain ⟨g277_0, h⟩ := ifS h
            refine At.step hm ht ⟨[], [], [], [0, 7, 9, 10, 13, 14, 15, 33, 34, 35], [0]⟩ 9 ⟨[(0, .one (.c (.d (.sl (.int .u8) b)))), (7, .one (.c (.own 0 (.int .u64) out))), (9, .one (.c (.d (.int .i64 (t13.getD t15.toNat 0))))), (10, .one (.c (.d (.int .u64 0)))), (13, .one (.c (.d (.sl (.int .i64) t13)))), (14, .one (.c (.d (.int .i64 t14)))), (15, .one (.c (.d (.int .i64 t15)))), (33, .one (.c (.d (.sl (.int .u8) (b.take (t13.getD t15.toNat 0).toNat))))), (34, .one (.c (.d (.int .i64 (((b.take (t13.getD t15.toNat 0).toNat).length : Nat) : Int))))), (35, .one (.c (.d (.int .i64 0))))], [(0, some ⟨22, 0⟩)], [], 1⟩ [cutOk b.length none (some (t13.getD t15.toNat 0)) none] (by kernel_rfl) ⟨g277_0, trivial⟩ ?_
            obtain ⟨w282, cw282, h⟩ := bindS h
            refine f84_pack_Get_L9_ok n b out (t13.getD t15.toNat 0) 0 t13 t14 t15 (b.take (t13.getD t15.toNat 0).toNat) (((b.take (t13.getD t15.toNat 0).toNat).length : Nat) : Int) 0 w282 cw282 _ ?_
            show At Go.Proofs.Try.prog Go.Proofs.Try.f84 0 13 ⟨[(0, .one (.c (.d (.sl (.int .u8) w282.1)))), (7, .one (.c (.own 0 (.int .u64) w282.2.1))), (9, .one (.c (.d (.int .i64 w282.2.2.1)))), (10, .one (.c (.d (.int .u64 w282.2.2.2.1)))), (13, .one (.c (.d (.sl (.int .i64) w282.2.2.2.2.1)))), (14, .one (.c (.d (.int .i64 w282.2.2.2.2.2.1)))), (15, .one (.c (.d (.int .i64 w282.2.2.2.2.2.2))))], [(0, some ⟨22, 0⟩)], [], 1⟩ _
            obtain ⟨g284_0, h⟩ := ifS h
            refine At.step hm ht ⟨[], [], [], [0, 7, 9, 13, 14, 15], [4]⟩ 14 ⟨[(0, .one (.c (.d (.sl (.int .u8) w282.1)))), (7, .one (.c (.own 0 (.int .u64) (w282.2.1 ++ [w282.2.2.2.1])))), (9, .one (.c (.d (.int .i64 w282.2.2.1)))), (13, .one (.c (.d (.sl (.int .i64) w282.2.2.2.2.1)))), (14, .one (.c (.d (.int .i64 w282.2.2.2.2.2.1)))), (15, .one (.c (.d (.int .i64 w282.2.2.2.2.2.2))))], [(0, some ⟨22, 0⟩)], [], 1⟩ [w282.2.1.length + [w282.2.2.2.1].length ≤ maxLen ∧ (w282.2.1.length + [w282.2.2.2.1].length) * 8 ≤ 140737488355328] (by kernel_rfl) ⟨g284_0, trivial⟩ ?_
            obtain ⟨g285_0, h⟩ := ifS h
            refine At.step hm ht ⟨[], [], [], [0, 7, 13, 14, 15], [0]⟩ 15 ⟨[(0, .one (.c (.d (.sl (.int .u8) ((w282.1.take w282.1.length).drop w282.2.2.1.toNat))))), (7, .one (.c (.own 0 (.int .u64) (w282.2.1 ++ [w282.2.2.2.1])))), (13, .one (.c (.d (.sl (.int .i64) w282.2.2.2.2.1)))), (14, .one (.c (.d (.int .i64 w282.2.2.2.2.2.1)))), (15, .one (.c (.d (.int .i64 w282.2.2.2.2.2.2))))], [(0, some ⟨22, 0⟩)], [], 1⟩ [cutOk w282.1.length (some w282.2.2.1) none none] (by kernel_rfl) ⟨g285_0, trivial⟩ ?_
            refine At.step hm ht ⟨[], [], [], [0, 7, 13, 14, 15], [0]⟩ 3 ⟨[(0, .one (.c (.d (.sl (.int .u8) ((w282.1.take w282.1.length).drop w282.2.2.1.toNat))))), (7, .one (.c (.own 0 (.int .u64) (w282.2.1 ++ [w282.2.2.2.1])))), (13, .one (.c (.d (.sl (.int .i64) w282.2.2.2.2.1)))), (14, .one (.c (.d (.int .i64 w282.2.2.2.2.2.1)))), (15, .one (.c (.d (.int .i64 (IntKind.wrap .i64 (w282.2.2.2.2.2.2 + 1))))))], [(0, some ⟨22, 0⟩)], [], 1⟩ [] (by kernel_rfl) trivial ?_
            exact ih ((w282.1.take w282.1.length).drop w282.2.2.1.toNat) (w282.2.1 ++ [w282.2.2.2.1]) w282.2.2.2.2.1 w282.2.2.2.2.2.1 (IntKind.wrap .i64 (w282.2.2.2.2.2.2 + 1)) w h o hk
    · refine At.step hm ht ⟨[], [false], [], [0, 7], [0]⟩ 16 ⟨[(0, .one (.c (.d (.sl (.int .u8) b)))), (7, .one (.c (.own 0 (.int .u64) out)))], [(0, some ⟨22, 0⟩)], [], 1⟩ [(decide ((t15 : Int) < t14)) = false] (by kernel_rfl) ⟨b270_e0, trivial⟩ ?_
      have h := Option.some.inj h
      subst h
      exact hk
def f84_pack_Get (n : Nat) (b : List Int) (sizes : List Int) : Option (List Int × List Int × Bool) :=
  (f84_pack_Get_L3 n b [] sizes ((sizes.length : Nat) : Int) 0).bind fun w287 =>
  match w287 with
  | .inl e288 =>
    some (e288.1, e288.2.1, e288.2.2)
  | .inr e289 =>
    if e289.1.length ≤ maxLen ∧ e289.1.length * 1 ≤ 140737488355328 then
    some (e289.2, e289.1, true)
    else none
theorem f84_pack_Get_ok (n : Nat) (b : List Int) (sizes : List Int) (r : List Int × List Int × Bool) (h : f84_pack_Get n b sizes = some r) : FnOK Go.Proofs.Try.prog 84 (f84_pack_Get_in b sizes) (f84_pack_Get_out r) := by
  unfold f84_pack_Get at h
  refine At.fn (r := 0) Go.Proofs.Try.func84 rfl (by kernel_rfl) rfl rfl (by kernel_rfl) ?_
  show At Go.Proofs.Try.prog Go.Proofs.Try.f84 0 0 ⟨[(0, .one (.c (.d (.sl (.int .u8) b)))), (1, .one (.c (.d (.sl (.int .i64) sizes))))], [], [], 0⟩ _
  refine At.step hm ht ⟨[], [], [], [0, 1], []⟩ 1 ⟨[(0, .one (.c (.d (.sl (.int .u8) b)))), (1, .one (.c (.d (.sl (.int .i64) sizes))))], [], [], 0⟩ [] (by kernel_rfl) trivial ?_
  refine At.step hm ht ⟨[], [], [], [0, 1, 7], []⟩ 2 ⟨[(0, .one (.c (.d (.sl (.int .u8) b)))), (1, .one (.c (.d (.sl (.int .i64) sizes)))), (7, .one (.c (.d (.sl .unit []))))], [], [], 0⟩ [] (by kernel_rfl) trivial ?_
  refine At.step hm ht ⟨[], [], [.nil false 7 0 (.int .u64) (some 22)], [0, 7, 13, 14, 15], [3]⟩ 3 ⟨[(0, .one (.c (.d (.sl (.int .u8) b)))), (7, .one (.c (.own 0 (.int .u64) []))), (13, .one (.c (.d (.sl (.int .i64) sizes)))), (14, .one (.c (.d (.int .i64 ((sizes.length : Nat) : Int))))), (15, .one (.c (.d (.int .i64 0))))], [(0, some ⟨22, 0⟩)], [], 1⟩ [] (by kernel_rfl) trivial ?_
  obtain ⟨w287, cw287, h⟩ := bindS h
  refine f84_pack_Get_L3_ok n b [] sizes ((sizes.length : Nat) : Int) 0 w287 cw287 _ ?_
  rcases w287 with e288 | e289
  · have h := Option.some.inj h
    subst h
    rfl
  · show At Go.Proofs.Try.prog Go.Proofs.Try.f84 0 16 ⟨[(0, .one (.c (.d (.sl (.int .u8) e289.1)))), (7, .one (.c (.own 0 (.int .u64) e289.2)))], [(0, some ⟨22, 0⟩)], [], 1⟩ _
    obtain ⟨g290_0, h⟩ := ifS h
    have h := Option.some.inj h
    subst h
    exact At.fin hm ht ⟨[], [], [], [4, 5, 6], [0, 3]⟩ [e289.1.length ≤ maxLen ∧ e289.1.length * 1 ≤ 140737488355328] (by kernel_rfl) ⟨g290_0, trivial⟩
/-! brougham/sack.Parse -/
def f45_sack_Parse_in (wait : Int) (o__0 : Int) (o__1 : List Int) : Inn := ⟨[.c (.d (.int .u32 wait)), .agg [.d (.int .u8 o__0), .d (.sl (.int .u8) o__1)]], [], [], 0⟩
def f45_sack_Parse_out (r : (List (Int × Int)) × Bool) : Out := ⟨.tup [.c (.own 0 (.pair (.int .u32) (.int .u32)) r.1), .c (.d (.bool r.2))], [(0, ⟨160, 0⟩)], [], 1⟩
def f45_sack_Parse_L5 : Nat → Int → (List (Int × Int)) → Int → (List Int) → Option (((List (Int × Int)) × Bool) ⊕ (Int × List (Int × Int)))
  | 0, _, _, _, _ => none
  | n + 1, wait, out, last, rest_ =>
    if (decide ((((rest_.length : Nat) : Int) : Int) > 0)) = true then
      (f84_pack_Get n rest_ [4, 4]).bind fun r326_0 =>
      if (!r326_0.2.2) = true then
        some (.inl ([], false))
      else
        if (0 : Int) ≤ 0 ∧ 0 < (((r326_0.1).length : Nat) : Int) then
        if (0 : Int) ≤ 1 ∧ 1 < (((r326_0.1).length : Nat) : Int) then
        if out.length + [((IntKind.wrap .u32 (last + (IntKind.wrap .u32 (r326_0.1.getD 0 0)))), (IntKind.wrap .u32 ((IntKind.wrap .u32 (last + (IntKind.wrap .u32 (r326_0.1.getD 0 0)))) + (IntKind.wrap .u32 (r326_0.1.getD 1 0)))))].length ≤ maxLen ∧ (out.length + [((IntKind.wrap .u32 (last + (IntKind.wrap .u32 (r326_0.1.getD 0 0)))), (IntKind.wrap .u32 ((IntKind.wrap .u32 (last + (IntKind.wrap .u32 (r326_0.1.getD 0 0)))) + (IntKind.wrap .u32 (r326_0.1.getD 1 0)))))].length) * 8 ≤ 140737488355328 then
        if (0 : Int) ≤ 1 ∧ 1 < (((r326_0.1).length : Nat) : Int) then
        f45_sack_Parse_L5 n wait (out ++ [((IntKind.wrap .u32 (last + (IntKind.wrap .u32 (r326_0.1.getD 0 0)))), (IntKind.wrap .u32 ((IntKind.wrap .u32 (last + (IntKind.wrap .u32 (r326_0.1.getD 0 0)))) + (IntKind.wrap .u32 (r326_0.1.getD 1 0)))))]) (IntKind.wrap .u32 ((IntKind.wrap .u32 (last + (IntKind.wrap .u32 (r326_0.1.getD 0 0)))) + (IntKind.wrap .u32 (r326_0.1.getD 1 0)))) r326_0.2.1
        else none
        else none
        else none
        else none
    else
      some (.inr ((wait, out)))
def f45_sack_Parse_L5_k (w : ((List (Int × Int)) × Bool) ⊕ (Int × List (Int × Int))) (o : Out) : Prop := match w with
  | .inl e => o = f45_sack_Parse_out e
  | .inr e => At Go.Proofs.Try.prog Go.Proofs.Try.f45 0 12 ⟨[(0, .one (.c (.d (.int .u32 e.1)))), (6, .one (.c (.own 0 (.pair (.int .u32) (.int .u32)) e.2)))], [(0, some ⟨160, 0⟩)], [], 1⟩ o
theorem f45_sack_Parse_L5_ok (n : Nat) : ∀ (wait : Int) (out : List (Int × Int)) (last : Int) (rest_ : List Int) (w : ((List (Int × Int)) × Bool) ⊕ (Int × List (Int × Int))) (h : f45_sack_Parse_L5 n wait out last rest_ = some w) (o : Out) (hk : f45_sack_Parse_L5_k w o), At Go.Proofs.Try.prog Go.Proofs.Try.f45 0 5 ⟨[(0, .one (.c (.d (.int .u32 wait)))), (6, .one (.c (.own 0 (.pair (.int .u32) (.int .u32)) out))), (7, .one (.c (.d (.int .u32 last)))), (8, .one (.c (.d (.sl (.int .u8) rest_))))], [(0, some ⟨160, 0⟩)], [], 1⟩ o := by
  induction n with
  | zero => intro wait out last rest_ w h; rw [f45_sack_Parse_L5] at h; cases h
  | succ n ih =>
    intro wait out last rest_ w h o hk
    rw [f45_sack_Parse_L5] at h
    rcases iteS h with ⟨b325_e0, h⟩ | ⟨b325_e0, h⟩
    · refine At.step hm ht ⟨[], [true], [], [0, 6, 7, 8], [0]⟩ 6 ⟨[(0, .one (.c (.d (.int .u32 wait)))), (6, .one (.c (.own 0 (.pair (.int .u32) (.int .u32)) out))), (7, .one (.c (.d (.int .u32 last)))), (8, .one (.c (.d (.sl (.int .u8) rest_))))], [(0, some ⟨160, 0⟩)], [], 1⟩ [(decide ((((rest_.length : Nat) : Int) : Int) > 0)) = true] (by kernel_rfl) ⟨b325_e0, trivial⟩ ?_
      obtain ⟨r326_0, cr326_0, h⟩ := bindS h
      refine At.step hm ht ⟨[(2, .call [] [] (f84_pack_Get_out r326_0))], [], [], [0, 6, 7, 9, 10, 11], [0, 3, 4]⟩ 7 ⟨[(0, .one (.c (.d (.int .u32 wait)))), (6, .one (.c (.own 0 (.pair (.int .u32) (.int .u32)) out))), (7, .one (.c (.d (.int .u32 last)))), (9, .one (.c (.own 1 (.int .u64) r326_0.1))), (10, .one (.c (.own 2 (.int .u8) r326_0.2.1))), (11, .one (.c (.d (.bool r326_0.2.2))))], [(0, some ⟨160, 0⟩), (1, some ⟨22, 0⟩), (2, some ⟨5, 0⟩)], [], 3⟩ [FnOK Go.Proofs.Try.prog 84 (f84_pack_Get_in rest_ [4, 4]) (f84_pack_Get_out r326_0)] (by kernel_rfl) ⟨(f84_pack_Get_ok n rest_ [4, 4] r326_0 cr326_0), trivial⟩ ?_
      rcases iteS h with ⟨b327_e0, h⟩ | ⟨b327_e0, h⟩
      · refine At.step hm ht ⟨[], [true], [], [], []⟩ 8 ⟨[], [], [], 0⟩ [(!r326_0.2.2) = true] (by kernel_rfl) ⟨b327_e0, trivial⟩ ?_
        have h := Option.some.inj h
        subst h
        have hk : o = f45_sack_Parse_out ([], false) := hk
        subst hk
        exact At.fin hm ht ⟨[], [], [.nil false 4 0 (.pair (.int .u32) (.int .u32)) (some 160)], [4, 5], [2]⟩ [] (by kernel_rfl) trivial
      · refine At.step hm ht ⟨[], [false], [], [0, 6, 7, 9, 10], [0, 1, 2]⟩ 9 ⟨[(0, .one (.c (.d (.int .u32 wait)))), (6, .one (.c (.own 0 (.pair (.int .u32) (.int .u32)) out))), (7, .one (.c (.d (.int .u32 last)))), (9, .one (.c (.own 1 (.int .u64) r326_0.1))), (10, .one (.c (.own 2 (.int .u8) r326_0.2.1)))], [(0, some ⟨160, 0⟩), (1, some ⟨22, 0⟩), (2, some ⟨5, 0⟩)], [], 3⟩ [(!r326_0.2.2) = false] (by kernel_rfl) ⟨b327_e0, trivial⟩ ?_
        obtain ⟨g329_0, h⟩ := ifS h
        refine At.step hm ht ⟨[], [], [], [0, 6, 9, 10, 12], [0, 1, 2]⟩ 10 ⟨[(0, .one (.c (.d (.int .u32 wait)))), (6, .one (.c (.own 0 (.pair (.int .u32) (.int .u32)) out))), (9, .one (.c (.own 1 (.int .u64) r326_0.1))), (10, .one (.c (.own 2 (.int .u8) r326_0.2.1))), (12, .one (.c (.d (.int .u32 (IntKind.wrap .u32 (last + (IntKind.wrap .u32 (r326_0.1.getD 0 0))))))))], [(0, some ⟨160, 0⟩), (1, some ⟨22, 0⟩), (2, some ⟨5, 0⟩)], [], 3⟩ [(0 : Int) ≤ 0 ∧ 0 < (((r326_0.1).length : Nat) : Int)] (by kernel_rfl) ⟨g329_0, trivial⟩ ?_
        obtain ⟨g330_0, h⟩ := ifS h
        obtain ⟨g330_1, h⟩ := ifS h
        refine At.step hm ht ⟨[], [], [], [0, 6, 9, 10, 12], [13, 1, 2]⟩ 11 ⟨[(0, .one (.c (.d (.int .u32 wait)))), (6, .one (.c (.own 0 (.pair (.int .u32) (.int .u32)) (out ++ [((IntKind.wrap .u32 (last + (IntKind.wrap .u32 (r326_0.1.getD 0 0)))), (IntKind.wrap .u32 ((IntKind.wrap .u32 (last + (IntKind.wrap .u32 (r326_0.1.getD 0 0)))) + (IntKind.wrap .u32 (r326_0.1.getD 1 0)))))])))), (9, .one (.c (.own 1 (.int .u64) r326_0.1))), (10, .one (.c (.own 2 (.int .u8) r326_0.2.1))), (12, .one (.c (.d (.int .u32 (IntKind.wrap .u32 (last + (IntKind.wrap .u32 (r326_0.1.getD 0 0))))))))], [(0, some ⟨160, 0⟩), (1, some ⟨22, 0⟩), (2, some ⟨5, 0⟩)], [], 3⟩ [(0 : Int) ≤ 1 ∧ 1 < (((r326_0.1).length : Nat) : Int), out.length + [((IntKind.wrap .u32 (last + (IntKind.wrap .u32 (r326_0.1.getD 0 0)))), (IntKind.wrap .u32 ((IntKind.wrap .u32 (last + (IntKind.wrap .u32 (r326_0.1.getD 0 0)))) + (IntKind.wrap .u32 (r326_0.1.getD 1 0)))))].length ≤ maxLen ∧ (out.length + [((IntKind.wrap .u32 (last + (IntKind.wrap .u32 (r326_0.1.getD 0 0)))), (IntKind.wrap .u32 ((IntKind.wrap .u32 (last + (IntKind.wrap .u32 (r326_0.1.getD 0 0)))) + (IntKind.wrap .u32 (r326_0.1.getD 1 0)))))].length) * 8 ≤ 140737488355328] (by kernel_rfl) ⟨g330_0, g330_1, trivial⟩ ?_
        obtain ⟨g331_0, h⟩ := ifS h
        refine At.step hm ht ⟨[], [], [], [0, 6, 7, 8], [0]⟩ 5 ⟨[(0, .one (.c (.d (.int .u32 wait)))), (6, .one (.c (.own 0 (.pair (.int .u32) (.int .u32)) (out ++ [((IntKind.wrap .u32 (last + (IntKind.wrap .u32 (r326_0.1.getD 0 0)))), (IntKind.wrap .u32 ((IntKind.wrap .u32 (last + (IntKind.wrap .u32 (r326_0.1.getD 0 0)))) + (IntKind.wrap .u32 (r326_0.1.getD 1 0)))))])))), (7, .one (.c (.d (.int .u32 (IntKind.wrap .u32 ((IntKind.wrap .u32 (last + (IntKind.wrap .u32 (r326_0.1.getD 0 0)))) + (IntKind.wrap .u32 (r326_0.1.getD 1 0)))))))), (8, .one (.c (.d (.sl (.int .u8) r326_0.2.1))))], [(0, some ⟨160, 0⟩)], [], 1⟩ [(0 : Int) ≤ 1 ∧ 1 < (((r326_0.1).length : Nat) : Int)] (by kernel_rfl) ⟨g331_0, trivial⟩ ?_
        exact ih wait (out ++ [((IntKind.wrap .u32 (last + (IntKind.wrap .u32 (r326_0.1.getD 0 0)))), (IntKind.wrap .u32 ((IntKind.wrap .u32 (last + (IntKind.wrap .u32 (r326_0.1.getD 0 0)))) + (IntKind.wrap .u32 (r326_0.1.getD 1 0)))))]) (IntKind.wrap .u32 ((IntKind.wrap .u32 (last + (IntKind.wrap .u32 (r326_0.1.getD 0 0)))) + (IntKind.wrap .u32 (r326_0.1.getD 1 0)))) r326_0.2.1 w h o hk
    · refine At.step hm ht ⟨[], [false], [], [0, 6], [0]⟩ 12 ⟨[(0, .one (.c (.d (.int .u32 wait)))), (6, .one (.c (.own 0 (.pair (.int .u32) (.int .u32)) out)))], [(0, some ⟨160, 0⟩)], [], 1⟩ [(decide ((((rest_.length : Nat) : Int) : Int) > 0)) = false] (by kernel_rfl) ⟨b325_e0, trivial⟩ ?_
      have h := Option.some.inj h
      subst h
      exact hk
def f45_sack_Parse (n : Nat) (wait : Int) (o__0 : Int) (o__1 : List Int) : Option ((List (Int × Int)) × Bool) :=
  if ((o__0 : Int) != 9) = true then
    some ([], false)
  else
    if ((((o__1.length : Nat) : Int) : Int) == 0) = true then
      some ([], false)
    else
      if (((Int.tmod ((o__1.length : Nat) : Int) 8) : Int) != 0) = true then
        some ([], false)
      else
        if (decide ((((o__1.length : Nat) : Int) : Int) > 32)) = true then
          some ([], false)
        else
          (f45_sack_Parse_L5 n wait [] wait o__1).bind fun w332 =>
          match w332 with
          | .inl e333 =>
            some (e333.1, e333.2)
          | .inr e334 =>
            (f47_sack_Right n e334.1 e334.2).bind fun r335_0 =>
            if (!r335_0) = true then
              some ([], false)
            else
              some (e334.2, true)
theorem f45_sack_Parse_ok (n : Nat) (wait : Int) (o__0 : Int) (o__1 : List Int) (r : (List (Int × Int)) × Bool) (h : f45_sack_Parse n wait o__0 o__1 = some r) : FnOK Go.Proofs.Try.prog 45 (f45_sack_Parse_in wait o__0 o__1) (f45_sack_Parse_out r) := by
  unfold f45_sack_Parse at h
  refine At.fn (r := 0) Go.Proofs.Try.func45 rfl (by kernel_rfl) rfl rfl (by kernel_rfl) ?_
  show At Go.Proofs.Try.prog Go.Proofs.Try.f45 0 0 ⟨[(0, .one (.c (.d (.int .u32 wait)))), (1, .one (.agg [.d (.int .u8 o__0), .d (.sl (.int .u8) o__1)]))], [], [], 0⟩ _
  refine At.step hm ht ⟨[], [], [], [0, 3], [0]⟩ 1 ⟨[(0, .one (.c (.d (.int .u32 wait)))), (3, .one (.c (.ptr 0 0)))], [], [(0, [.d (.int .u8 o__0), .d (.sl (.int .u8) o__1)])], 1⟩ [] (by kernel_rfl) trivial ?_
  rcases iteS h with ⟨b318_3, h⟩ | ⟨b318_3, h⟩
  · refine At.step hm ht ⟨[(3, .b true)], [true], [], [], []⟩ 2 ⟨[], [], [], 0⟩ [((o__0 : Int) != 9) = true, true = true] (by kernel_rfl) ⟨b318_3, rfl, trivial⟩ ?_
    have h := Option.some.inj h
    subst h
    exact At.fin hm ht ⟨[], [], [.nil false 4 0 (.pair (.int .u32) (.int .u32)) (some 160)], [4, 5], [2]⟩ [] (by kernel_rfl) trivial
  · rcases iteS h with ⟨b318_9, h⟩ | ⟨b318_9, h⟩
    · refine At.step hm ht ⟨[(3, .b false), (9, .b true)], [true], [], [], []⟩ 2 ⟨[], [], [], 0⟩ [((o__0 : Int) != 9) = false, ((((o__1.length : Nat) : Int) : Int) == 0) = true, true = true] (by kernel_rfl) ⟨b318_3, b318_9, rfl, trivial⟩ ?_
      have h := Option.some.inj h
      subst h
      exact At.fin hm ht ⟨[], [], [.nil false 4 0 (.pair (.int .u32) (.int .u32)) (some 160)], [4, 5], [2]⟩ [] (by kernel_rfl) trivial
    · rcases iteS h with ⟨b318_16, h⟩ | ⟨b318_16, h⟩
      · refine At.step hm ht ⟨[(3, .b false), (9, .b false), (16, .b true)], [true], [], [], []⟩ 2 ⟨[], [], [], 0⟩ [((o__0 : Int) != 9) = false, ((((o__1.length : Nat) : Int) : Int) == 0) = false, (8 : Int) ≠ 0, (((Int.tmod ((o__1.length : Nat) : Int) 8) : Int) != 0) = true, true = true] (by kernel_rfl) ⟨b318_3, b318_9, (by decide), b318_16, rfl, trivial⟩ ?_
        have h := Option.some.inj h
        subst h
        exact At.fin hm ht ⟨[], [], [.nil false 4 0 (.pair (.int .u32) (.int .u32)) (some 160)], [4, 5], [2]⟩ [] (by kernel_rfl) trivial
      · rcases iteS h with ⟨b318_e0, h⟩ | ⟨b318_e0, h⟩
        · refine At.step hm ht ⟨[(3, .b false), (9, .b false), (16, .b false)], [true], [], [], []⟩ 2 ⟨[], [], [], 0⟩ [((o__0 : Int) != 9) = false, ((((o__1.length : Nat) : Int) : Int) == 0) = false, (8 : Int) ≠ 0, (((Int.tmod ((o__1.length : Nat) : Int) 8) : Int) != 0) = false, (decide ((((o__1.length : Nat) : Int) : Int) > 32)) = true] (by kernel_rfl) ⟨b318_3, b318_9, (by decide), b318_16, b318_e0, trivial⟩ ?_
          have h := Option.some.inj h
          subst h
          exact At.fin hm ht ⟨[], [], [.nil false 4 0 (.pair (.int .u32) (.int .u32)) (some 160)], [4, 5], [2]⟩ [] (by kernel_rfl) trivial
        · refine At.step hm ht ⟨[(3, .b false), (9, .b false), (16, .b false)], [false], [], [0, 3], [0]⟩ 3 ⟨[(0, .one (.c (.d (.int .u32 wait)))), (3, .one (.c (.ptr 0 0)))], [], [(0, [.d (.int .u8 o__0), .d (.sl (.int .u8) o__1)])], 1⟩ [((o__0 : Int) != 9) = false, ((((o__1.length : Nat) : Int) : Int) == 0) = false, (8 : Int) ≠ 0, (((Int.tmod ((o__1.length : Nat) : Int) 8) : Int) != 0) = false, (decide ((((o__1.length : Nat) : Int) : Int) > 32)) = false] (by kernel_rfl) ⟨b318_3, b318_9, (by decide), b318_16, b318_e0, trivial⟩ ?_
          refine At.step hm ht ⟨[], [], [], [0, 3, 6], [0]⟩ 4 ⟨[(0, .one (.c (.d (.int .u32 wait)))), (3, .one (.c (.ptr 0 0))), (6, .one (.c (.d (.sl .unit []))))], [], [(0, [.d (.int .u8 o__0), .d (.sl (.int .u8) o__1)])], 1⟩ [] (by kernel_rfl) trivial ?_
          refine At.step hm ht ⟨[], [], [.nil false 6 0 (.pair (.int .u32) (.int .u32)) (some 160)], [0, 6, 7, 8], [6]⟩ 5 ⟨[(0, .one (.c (.d (.int .u32 wait)))), (6, .one (.c (.own 0 (.pair (.int .u32) (.int .u32)) []))), (7, .one (.c (.d (.int .u32 wait)))), (8, .one (.c (.d (.sl (.int .u8) o__1))))], [(0, some ⟨160, 0⟩)], [], 1⟩ [] (by kernel_rfl) trivial ?_
          obtain ⟨w332, cw332, h⟩ := bindS h
          refine f45_sack_Parse_L5_ok n wait [] wait o__1 w332 cw332 _ ?_
          rcases w332 with e333 | e334
          · have h := Option.some.inj h
            subst h
            rfl
          · show At Go.Proofs.Try.prog Go.Proofs.Try.f45 0 12 ⟨[(0, .one (.c (.d (.int .u32 e334.1)))), (6, .one (.c (.own 0 (.pair (.int .u32) (.int .u32)) e334.2)))], [(0, some ⟨160, 0⟩)], [], 1⟩ _
            obtain ⟨r335_0, cr335_0, h⟩ := bindS h
            rcases iteS h with ⟨b335_e0, h⟩ | ⟨b335_e0, h⟩
            · refine At.step hm ht ⟨[(2, .call [] [] (f47_sack_Right_out r335_0))], [true], [], [], []⟩ 13 ⟨[], [], [], 0⟩ [FnOK Go.Proofs.Try.prog 47 (f47_sack_Right_in e334.1 e334.2) (f47_sack_Right_out r335_0), (!r335_0) = true] (by kernel_rfl) ⟨(f47_sack_Right_ok n e334.1 e334.2 r335_0 cr335_0), b335_e0, trivial⟩ ?_
              have h := Option.some.inj h
              subst h
              exact At.fin hm ht ⟨[], [], [.nil false 4 0 (.pair (.int .u32) (.int .u32)) (some 160)], [4, 5], [2]⟩ [] (by kernel_rfl) trivial
            · refine At.step hm ht ⟨[(2, .call [] [] (f47_sack_Right_out r335_0))], [false], [], [6], [0]⟩ 14 ⟨[(6, .one (.c (.own 0 (.pair (.int .u32) (.int .u32)) e334.2)))], [(0, some ⟨160, 0⟩)], [], 1⟩ [FnOK Go.Proofs.Try.prog 47 (f47_sack_Right_in e334.1 e334.2) (f47_sack_Right_out r335_0), (!r335_0) = false] (by kernel_rfl) ⟨(f47_sack_Right_ok n e334.1 e334.2 r335_0 cr335_0), b335_e0, trivial⟩ ?_
              have h := Option.some.inj h
              subst h
              exact At.fin hm ht ⟨[], [], [], [4, 5], [0]⟩ [] (by kernel_rfl) trivial
/-! brougham/broughamref02.Get -/
def f125_broughamref02_Get_in (b : List Int) (bytes : Int) : Inn := ⟨[.c (.d (.sl (.int .u8) b)), .c (.d (.int .i64 bytes))], [], [], 0⟩
def f125_broughamref02_Get_out (r : Int × List Int × Bool) : Out := ⟨.tup [.c (.d (.int .u64 r.1)), .c (.d (.sl (.int .u8) r.2.1)), .c (.d (.bool r.2.2))], [], [], 0⟩
def f125_broughamref02_Get_L5 : Nat → (List Int) → Int → Int → Int → Option (List Int × Int × Int)
  | 0, _, _, _, _ => none
  | n + 1, b, bytes, n_, i =>
    if (decide ((i : Int) < bytes)) = true then
      if (0 : Int) ≤ i ∧ i < (((b).length : Nat) : Int) then
      f125_broughamref02_Get_L5 n b bytes (IntKind.wrap .u64 ((IntKind.wrap .u64 (n_ * 256)) + (IntKind.wrap .u64 (b.getD i.toNat 0)))) (IntKind.wrap .i64 (i + 1))
      else none
    else
      some ((b, bytes, n_))
def f125_broughamref02_Get_L5_k (e : List Int × Int × Int) (o : Out) : Prop := At Go.Proofs.Try.prog Go.Proofs.Try.f125 0 8 ⟨[(0, .one (.c (.d (.sl (.int .u8) e.1)))), (1, .one (.c (.d (.int .i64 e.2.1)))), (7, .one (.c (.d (.int .u64 e.2.2))))], [], [], 0⟩ o
theorem f125_broughamref02_Get_L5_ok (n : Nat) : ∀ (b : List Int) (bytes : Int) (n_ : Int) (i : Int) (w : List Int × Int × Int) (h : f125_broughamref02_Get_L5 n b bytes n_ i = some w) (o : Out) (hk : f125_broughamref02_Get_L5_k w o), At Go.Proofs.Try.prog Go.Proofs.Try.f125 0 5 ⟨[(0, .one (.c (.d (.sl (.int .u8) b)))), (1, .one (.c (.d (.int .i64 bytes)))), (7, .one (.c (.d (.int .u64 n_)))), (8, .one (.c (.d (.int .i64 i))))], [], [], 0⟩ o := by
  induction n with
  | zero => intro b bytes n_ i w h; rw [f125_broughamref02_Get_L5] at h; cases h
  | succ n ih =>
    intro b bytes n_ i w h o hk
    rw [f125_broughamref02_Get_L5] at h
    rcases iteS h with ⟨b375_e0, h⟩ | ⟨b375_e0, h⟩
    · refine At.step hm ht ⟨[], [true], [], [0, 1, 7, 8], []⟩ 7 ⟨[(0, .one (.c (.d (.sl (.int .u8) b)))), (1, .one (.c (.d (.int .i64 bytes)))), (7, .one (.c (.d (.int .u64 n_)))), (8, .one (.c (.d (.int .i64 i))))], [], [], 0⟩ [(decide ((i : Int) < bytes)) = true] (by kernel_rfl) ⟨b375_e0, trivial⟩ ?_
      obtain ⟨g376_0, h⟩ := ifS h
      refine At.step hm ht ⟨[], [], [], [0, 1, 7, 8], []⟩ 6 ⟨[(0, .one (.c (.d (.sl (.int .u8) b)))), (1, .one (.c (.d (.int .i64 bytes)))), (7, .one (.c (.d (.int .u64 (IntKind.wrap .u64 ((IntKind.wrap .u64 (n_ * 256)) + (IntKind.wrap .u64 (b.getD i.toNat 0)))))))), (8, .one (.c (.d (.int .i64 i))))], [], [], 0⟩ [(0 : Int) ≤ i ∧ i < (((b).length : Nat) : Int)] (by kernel_rfl) ⟨g376_0, trivial⟩ ?_
      refine At.step hm ht ⟨[], [], [], [0, 1, 7, 8], []⟩ 5 ⟨[(0, .one (.c (.d (.sl (.int .u8) b)))), (1, .one (.c (.d (.int .i64 bytes)))), (7, .one (.c (.d (.int .u64 (IntKind.wrap .u64 ((IntKind.wrap .u64 (n_ * 256)) + (IntKind.wrap .u64 (b.getD i.toNat 0)))))))), (8, .one (.c (.d (.int .i64 (IntKind.wrap .i64 (i + 1))))))], [], [], 0⟩ [] (by kernel_rfl) trivial ?_
      exact ih b bytes (IntKind.wrap .u64 ((IntKind.wrap .u64 (n_ * 256)) + (IntKind.wrap .u64 (b.getD i.toNat 0)))) (IntKind.wrap .i64 (i + 1)) w h o hk
    · refine At.step hm ht ⟨[], [false], [], [0, 1, 7], []⟩ 8 ⟨[(0, .one (.c (.d (.sl (.int .u8) b)))), (1, .one (.c (.d (.int .i64 bytes)))), (7, .one (.c (.d (.int .u64 n_))))], [], [], 0⟩ [(decide ((i : Int) < bytes)) = false] (by kernel_rfl) ⟨b375_e0, trivial⟩ ?_
      have h := Option.some.inj h
      subst h
      exact hk
def f125_broughamref02_Get (n : Nat) (b : List Int) (bytes : Int) : Option (Int × List Int × Bool) :=
  if (decide ((bytes : Int) < 1)) = true then
    some (0, [], false)
  else
    if (decide ((bytes : Int) > 8)) = true then
      some (0, [], false)
    else
      if (decide ((((b.length : Nat) : Int) : Int) < bytes)) = true then
        some (0, [], false)
      else
        (f125_broughamref02_Get_L5 n b bytes 0 0).bind fun w378 =>
        if cutOk w378.1.length (some w378.2.1) none none then
        some (w378.2.2, ((w378.1.take w378.1.length).drop w378.2.1.toNat), true)
        else none
theorem f125_broughamref02_Get_ok (n : Nat) (b : List Int) (bytes : Int) (r : Int × List Int × Bool) (h : f125_broughamref02_Get n b bytes = some r) : FnOK Go.Proofs.Try.prog 125 (f125_broughamref02_Get_in b bytes) (f125_broughamref02_Get_out r) := by
  unfold f125_broughamref02_Get at h
  refine At.fn (r := 0) Go.Proofs.Try.func125 rfl (by kernel_rfl) rfl rfl (by kernel_rfl) ?_
  show At Go.Proofs.Try.prog Go.Proofs.Try.f125 0 0 ⟨[(0, .one (.c (.d (.sl (.int .u8) b)))), (1, .one (.c (.d (.int .i64 bytes))))], [], [], 0⟩ _
  refine At.step hm ht ⟨[], [], [], [0, 1], []⟩ 1 ⟨[(0, .one (.c (.d (.sl (.int .u8) b)))), (1, .one (.c (.d (.int .i64 bytes))))], [], [], 0⟩ [] (by kernel_rfl) trivial ?_
  rcases iteS h with ⟨b369_2, h⟩ | ⟨b369_2, h⟩
  · refine At.step hm ht ⟨[(2, .b true)], [true], [], [], []⟩ 2 ⟨[], [], [], 0⟩ [(decide ((bytes : Int) < 1)) = true, true = true] (by kernel_rfl) ⟨b369_2, rfl, trivial⟩ ?_
    have h := Option.some.inj h
    subst h
    exact At.fin hm ht ⟨[], [], [.nil false 5 0 (.int .u8) none], [4, 5, 6], []⟩ [] (by kernel_rfl) trivial
  · rcases iteS h with ⟨b369_6, h⟩ | ⟨b369_6, h⟩
    · refine At.step hm ht ⟨[(2, .b false), (6, .b true)], [true], [], [], []⟩ 2 ⟨[], [], [], 0⟩ [(decide ((bytes : Int) < 1)) = false, (decide ((bytes : Int) > 8)) = true, true = true] (by kernel_rfl) ⟨b369_2, b369_6, rfl, trivial⟩ ?_
      have h := Option.some.inj h
      subst h
      exact At.fin hm ht ⟨[], [], [.nil false 5 0 (.int .u8) none], [4, 5, 6], []⟩ [] (by kernel_rfl) trivial
    · rcases iteS h with ⟨b369_e0, h⟩ | ⟨b369_e0, h⟩
      · refine At.step hm ht ⟨[(2, .b false), (6, .b false)], [true], [], [], []⟩ 2 ⟨[], [], [], 0⟩ [(decide ((bytes : Int) < 1)) = false, (decide ((bytes : Int) > 8)) = false, (decide ((((b.length : Nat) : Int) : Int) < bytes)) = true] (by kernel_rfl) ⟨b369_2, b369_6, b369_e0, trivial⟩ ?_
        have h := Option.some.inj h
        subst h
        exact At.fin hm ht ⟨[], [], [.nil false 5 0 (.int .u8) none], [4, 5, 6], []⟩ [] (by kernel_rfl) trivial
      · refine At.step hm ht ⟨[(2, .b false), (6, .b false)], [false], [], [0, 1], []⟩ 3 ⟨[(0, .one (.c (.d (.sl (.int .u8) b)))), (1, .one (.c (.d (.int .i64 bytes))))], [], [], 0⟩ [(decide ((bytes : Int) < 1)) = false, (decide ((bytes : Int) > 8)) = false, (decide ((((b.length : Nat) : Int) : Int) < bytes)) = false] (by kernel_rfl) ⟨b369_2, b369_6, b369_e0, trivial⟩ ?_
        refine At.step hm ht ⟨[], [], [], [0, 1, 7], []⟩ 4 ⟨[(0, .one (.c (.d (.sl (.int .u8) b)))), (1, .one (.c (.d (.int .i64 bytes)))), (7, .one (.c (.d (.int .u64 0))))], [], [], 0⟩ [] (by kernel_rfl) trivial ?_
        refine At.step hm ht ⟨[], [], [], [0, 1, 7, 8], []⟩ 5 ⟨[(0, .one (.c (.d (.sl (.int .u8) b)))), (1, .one (.c (.d (.int .i64 bytes)))), (7, .one (.c (.d (.int .u64 0)))), (8, .one (.c (.d (.int .i64 0))))], [], [], 0⟩ [] (by kernel_rfl) trivial ?_
        obtain ⟨w378, cw378, h⟩ := bindS h
        refine f125_broughamref02_Get_L5_ok n b bytes 0 0 w378 cw378 _ ?_
        show At Go.Proofs.Try.prog Go.Proofs.Try.f125 0 8 ⟨[(0, .one (.c (.d (.sl (.int .u8) w378.1)))), (1, .one (.c (.d (.int .i64 w378.2.1)))), (7, .one (.c (.d (.int .u64 w378.2.2))))], [], [], 0⟩ _
        obtain ⟨g380_0, h⟩ := ifS h
        have h := Option.some.inj h
        subst h
        exact At.fin hm ht ⟨[], [], [], [4, 5, 6], []⟩ [cutOk w378.1.length (some w378.2.1) none none] (by kernel_rfl) ⟨g380_0, trivial⟩
/-! brougham/broughamref02.All -/
def f85_broughamref02_All_in (b : List Int) (sizes : List Int) : Inn := ⟨[.c (.d (.sl (.int .u8) b)), .c (.d (.sl (.int .i64) sizes))], [], [], 0⟩
def f85_broughamref02_All_out (r : List Int × List Int × Bool) : Out := ⟨.tup [.c (.own 0 (.int .u64) r.1), .c (.d (.sl (.int .u8) r.2.1)), .c (.d (.bool r.2.2))], [(0, ⟨22, 0⟩)], [], 1⟩
def f85_broughamref02_All_L3 : Nat → (List Int) → (List Int) → (List Int) → Int → Option ((List Int × List Int × Bool) ⊕ (List Int × List Int))
  | 0, _, _, _, _ => none
  | n + 1, b, sizes, out, i =>
    if (decide ((i : Int) < ((sizes.length : Nat) : Int))) = true then
      if (0 : Int) ≤ i ∧ i < (((sizes).length : Nat) : Int) then
      (f125_broughamref02_Get n b (sizes.getD i.toNat 0)).bind fun r404_1 =>
      if (!r404_1.2.2) = true then
        some (.inl ([], [], false))
      else
        if out.length + [r404_1.1].length ≤ maxLen ∧ (out.length + [r404_1.1].length) * 8 ≤ 140737488355328 then
        f85_broughamref02_All_L3 n r404_1.2.1 sizes (out ++ [r404_1.1]) (IntKind.wrap .i64 (i + 1))
        else none
      else none
    else
      some (.inr ((b, out)))
def f85_broughamref02_All_L3_k (w : (List Int × List Int × Bool) ⊕ (List Int × List Int)) (o : Out) : Prop := match w with
  | .inl e => o = f85_broughamref02_All_out e
  | .inr e => At Go.Proofs.Try.prog Go.Proofs.Try.f85 0 10 ⟨[(0, .one (.c (.d (.sl (.int .u8) e.1)))), (7, .one (.c (.own 0 (.int .u64) e.2)))], [(0, some ⟨22, 0⟩)], [], 1⟩ o
theorem f85_broughamref02_All_L3_ok (n : Nat) : ∀ (b : List Int) (sizes : List Int) (out : List Int) (i : Int) (w : (List Int × List Int × Bool) ⊕ (List Int × List Int)) (h : f85_broughamref02_All_L3 n b sizes out i = some w) (o : Out) (hk : f85_broughamref02_All_L3_k w o), At Go.Proofs.Try.prog Go.Proofs.Try.f85 0 3 ⟨[(0, .one (.c (.d (.sl (.int .u8) b)))), (1, .one (.c (.d (.sl (.int .i64) sizes)))), (7, .one (.c (.own 0 (.int .u64) out))), (8, .one (.c (.d (.int .i64 i))))], [(0, some ⟨22, 0⟩)], [], 1⟩ o := by
  induction n with
  | zero => intro b sizes out i w h; rw [f85_broughamref02_All_L3] at h; cases h
  | succ n ih =>
    intro b sizes out i w h o hk
    rw [f85_broughamref02_All_L3] at h
    rcases iteS h with ⟨b403_e0, h⟩ | ⟨b403_e0, h⟩
    · refine At.step hm ht ⟨[], [true], [], [0, 1, 7, 8], [0]⟩ 5 ⟨[(0, .one (.c (.d (.sl (.int .u8) b)))), (1, .one (.c (.d (.sl (.int .i64) sizes)))), (7, .one (.c (.own 0 (.int .u64) out))), (8, .one (.c (.d (.int .i64 i))))], [(0, some ⟨22, 0⟩)], [], 1⟩ [(decide ((i : Int) < ((sizes.length : Nat) : Int))) = true] (by kernel_rfl) ⟨b403_e0, trivial⟩ ?_
      obtain ⟨g404_0, h⟩ := ifS h
      obtain ⟨r404_1, cr404_1, h⟩ := bindS h
      refine At.step hm ht ⟨[(5, .call [] [] (f125_broughamref02_Get_out r404_1))], [], [], [1, 7, 8, 9, 10, 11], [0]⟩ 6 ⟨[(1, .one (.c (.d (.sl (.int .i64) sizes)))), (7, .one (.c (.own 0 (.int .u64) out))), (8, .one (.c (.d (.int .i64 i)))), (9, .one (.c (.d (.int .u64 r404_1.1)))), (10, .one (.c (.d (.sl (.int .u8) r404_1.2.1)))), (11, .one (.c (.d (.bool r404_1.2.2))))], [(0, some ⟨22, 0⟩)], [], 1⟩ [(0 : Int) ≤ i ∧ i < (((sizes).length : Nat) : Int), FnOK Go.Proofs.Try.prog 125 (f125_broughamref02_Get_in b (sizes.getD i.toNat 0)) (f125_broughamref02_Get_out r404_1)] (by kernel_rfl) ⟨g404_0, (f125_broughamref02_Get_ok n b (sizes.getD i.toNat 0) r404_1 cr404_1), trivial⟩ ?_
      rcases iteS h with ⟨b405_e0, h⟩ | ⟨b405_e0, h⟩
      · refine At.step hm ht ⟨[], [true], [], [], []⟩ 7 ⟨[], [], [], 0⟩ [(!r404_1.2.2) = true] (by kernel_rfl) ⟨b405_e0, trivial⟩ ?_
        have h := Option.some.inj h
        subst h
        have hk : o = f85_broughamref02_All_out ([], [], false) := hk
        subst hk
        exact At.fin hm ht ⟨[], [], [.nil false 4 0 (.int .u64) (some 22), .nil false 5 0 (.int .u8) none], [4, 5, 6], [3]⟩ [] (by kernel_rfl) trivial
      · refine At.step hm ht ⟨[], [false], [], [1, 7, 8, 9, 10], [0]⟩ 8 ⟨[(1, .one (.c (.d (.sl (.int .i64) sizes)))), (7, .one (.c (.own 0 (.int .u64) out))), (8, .one (.c (.d (.int .i64 i)))), (9, .one (.c (.d (.int .u64 r404_1.1)))), (10, .one (.c (.d (.sl (.int .u8) r404_1.2.1))))], [(0, some ⟨22, 0⟩)], [], 1⟩ [(!r404_1.2.2) = false] (by kernel_rfl) ⟨b405_e0, trivial⟩ ?_
        obtain ⟨g407_0, h⟩ := ifS h
        refine At.step hm ht ⟨[], [], [], [1, 7, 8, 10], [4]⟩ 9 ⟨[(1, .one (.c (.d (.sl (.int .i64) sizes)))), (7, .one (.c (.own 0 (.int .u64) (out ++ [r404_1.1])))), (8, .one (.c (.d (.int .i64 i)))), (10, .one (.c (.d (.sl (.int .u8) r404_1.2.1))))], [(0, some ⟨22, 0⟩)], [], 1⟩ [out.length + [r404_1.1].length ≤ maxLen ∧ (out.length + [r404_1.1].length) * 8 ≤ 140737488355328] (by kernel_rfl) ⟨g407_0, trivial⟩ ?_
        refine At.step hm ht ⟨[], [], [], [0, 1, 7, 8], [0]⟩ 4 ⟨[(0, .one (.c (.d (.sl (.int .u8) r404_1.2.1)))), (1, .one (.c (.d (.sl (.int .i64) sizes)))), (7, .one (.c (.own 0 (.int .u64) (out ++ [r404_1.1])))), (8, .one (.c (.d (.int .i64 i))))], [(0, some ⟨22, 0⟩)], [], 1⟩ [] (by kernel_rfl) trivial ?_
        refine At.step hm ht ⟨[], [], [], [0, 1, 7, 8], [0]⟩ 3 ⟨[(0, .one (.c (.d (.sl (.int .u8) r404_1.2.1)))), (1, .one (.c (.d (.sl (.int .i64) sizes)))), (7, .one (.c (.own 0 (.int .u64) (out ++ [r404_1.1])))), (8, .one (.c (.d (.int .i64 (IntKind.wrap .i64 (i + 1))))))], [(0, some ⟨22, 0⟩)], [], 1⟩ [] (by kernel_rfl) trivial ?_
        exact ih r404_1.2.1 sizes (out ++ [r404_1.1]) (IntKind.wrap .i64 (i + 1)) w h o hk
    · refine At.step hm ht ⟨[], [false], [], [0, 7], [0]⟩ 10 ⟨[(0, .one (.c (.d (.sl (.int .u8) b)))), (7, .one (.c (.own 0 (.int .u64) out)))], [(0, some ⟨22, 0⟩)], [], 1⟩ [(decide ((i : Int) < ((sizes.length : Nat) : Int))) = false] (by kernel_rfl) ⟨b403_e0, trivial⟩ ?_
      have h := Option.some.inj h
      subst h
      exact hk
def f85_broughamref02_All (n : Nat) (b : List Int) (sizes : List Int) : Option (List Int × List Int × Bool) :=
  (f85_broughamref02_All_L3 n b sizes [] 0).bind fun w410 =>
  match w410 with
  | .inl e411 =>
    some (e411.1, e411.2.1, e411.2.2)
  | .inr e412 =>
    some (e412.2, e412.1, true)
theorem f85_broughamref02_All_ok (n : Nat) (b : List Int) (sizes : List Int) (r : List Int × List Int × Bool) (h : f85_broughamref02_All n b sizes = some r) : FnOK Go.Proofs.Try.prog 85 (f85_broughamref02_All_in b sizes) (f85_broughamref02_All_out r) := by
  unfold f85_broughamref02_All at h
  refine At.fn (r := 0) Go.Proofs.Try.func85 rfl (by kernel_rfl) rfl rfl (by kernel_rfl) ?_
  show At Go.Proofs.Try.prog Go.Proofs.Try.f85 0 0 ⟨[(0, .one (.c (.d (.sl (.int .u8) b)))), (1, .one (.c (.d (.sl (.int .i64) sizes))))], [], [], 0⟩ _
  refine At.step hm ht ⟨[], [], [], [0, 1], []⟩ 1 ⟨[(0, .one (.c (.d (.sl (.int .u8) b)))), (1, .one (.c (.d (.sl (.int .i64) sizes))))], [], [], 0⟩ [] (by kernel_rfl) trivial ?_
  refine At.step hm ht ⟨[], [], [], [0, 1, 7], []⟩ 2 ⟨[(0, .one (.c (.d (.sl (.int .u8) b)))), (1, .one (.c (.d (.sl (.int .i64) sizes)))), (7, .one (.c (.d (.sl .unit []))))], [], [], 0⟩ [] (by kernel_rfl) trivial ?_
  refine At.step hm ht ⟨[], [], [.nil false 7 0 (.int .u64) (some 22)], [0, 1, 7, 8], [1]⟩ 3 ⟨[(0, .one (.c (.d (.sl (.int .u8) b)))), (1, .one (.c (.d (.sl (.int .i64) sizes)))), (7, .one (.c (.own 0 (.int .u64) []))), (8, .one (.c (.d (.int .i64 0))))], [(0, some ⟨22, 0⟩)], [], 1⟩ [] (by kernel_rfl) trivial ?_
  obtain ⟨w410, cw410, h⟩ := bindS h
  refine f85_broughamref02_All_L3_ok n b sizes [] 0 w410 cw410 _ ?_
  rcases w410 with e411 | e412
  · have h := Option.some.inj h
    subst h
    rfl
  · show At Go.Proofs.Try.prog Go.Proofs.Try.f85 0 10 ⟨[(0, .one (.c (.d (.sl (.int .u8) e412.1)))), (7, .one (.c (.own 0 (.int .u64) e412.2)))], [(0, some ⟨22, 0⟩)], [], 1⟩ _
    have h := Option.some.inj h
    subst h
    exact At.fin hm ht ⟨[], [], [], [4, 5, 6], [0]⟩ [] (by kernel_rfl) trivial
/-! brougham/broughamref31.Parse -/
def f46_broughamref31_Parse_in (wait : Int) (o__0 : Int) (o__1 : List Int) : Inn := ⟨[.c (.d (.int .u32 wait)), .agg [.d (.int .u8 o__0), .d (.sl (.int .u8) o__1)]], [], [], 0⟩
def f46_broughamref31_Parse_out (r : (List (Int × Int)) × Bool) : Out := ⟨.tup [.c (.own 0 (.pair (.int .u32) (.int .u32)) r.1), .c (.d (.bool r.2))], [(0, ⟨161, 0⟩)], [], 1⟩
def f46_broughamref31_Parse_L6 : Nat → Int → (List (Int × Int)) → Int → Int → Int → (List Int) → Option (Int × List (Int × Int))
  | 0, _, _, _, _, _, _ => none
  | n + 1, wait, out, last, at_, o__0, o__1 =>
    if (decide ((at_ : Int) < ((o__1.length : Nat) : Int))) = true then
      if cutOk o__1.length (some at_) none none then
      (f85_broughamref02_All n ((o__1.take o__1.length).drop at_.toNat) [4, 4]).bind fun r450_1 =>
      if (0 : Int) ≤ 0 ∧ 0 < (((r450_1.1).length : Nat) : Int) then
      if (0 : Int) ≤ 1 ∧ 1 < (((r450_1.1).length : Nat) : Int) then
      if out.length + [((IntKind.wrap .u32 (last + (IntKind.wrap .u32 (r450_1.1.getD 0 0)))), (IntKind.wrap .u32 ((IntKind.wrap .u32 (last + (IntKind.wrap .u32 (r450_1.1.getD 0 0)))) + (IntKind.wrap .u32 (r450_1.1.getD 1 0)))))].length ≤ maxLen ∧ (out.length + [((IntKind.wrap .u32 (last + (IntKind.wrap .u32 (r450_1.1.getD 0 0)))), (IntKind.wrap .u32 ((IntKind.wrap .u32 (last + (IntKind.wrap .u32 (r450_1.1.getD 0 0)))) + (IntKind.wrap .u32 (r450_1.1.getD 1 0)))))].length) * 8 ≤ 140737488355328 then
      f46_broughamref31_Parse_L6 n wait (out ++ [((IntKind.wrap .u32 (last + (IntKind.wrap .u32 (r450_1.1.getD 0 0)))), (IntKind.wrap .u32 ((IntKind.wrap .u32 (last + (IntKind.wrap .u32 (r450_1.1.getD 0 0)))) + (IntKind.wrap .u32 (r450_1.1.getD 1 0)))))]) (IntKind.wrap .u32 ((IntKind.wrap .u32 (last + (IntKind.wrap .u32 (r450_1.1.getD 0 0)))) + (IntKind.wrap .u32 (r450_1.1.getD 1 0)))) (IntKind.wrap .i64 (at_ + 8)) o__0 o__1
      else none
      else none
      else none
      else none
    else
      some ((wait, out))
def f46_broughamref31_Parse_L6_k (e : Int × List (Int × Int)) (o : Out) : Prop := At Go.Proofs.Try.prog Go.Proofs.Try.f46 0 13 ⟨[(0, .one (.c (.d (.int .u32 e.1)))), (6, .one (.c (.own 0 (.pair (.int .u32) (.int .u32)) e.2)))], [(0, some ⟨161, 0⟩)], [], 1⟩ o
theorem f46_broughamref31_Parse_L6_ok (n : Nat) : ∀ (wait : Int) (out : List (Int × Int)) (last : Int) (at_ : Int) (o__0 : Int) (o__1 : List Int) (w : Int × List (Int × Int)) (h : f46_broughamref31_Parse_L6 n wait out last at_ o__0 o__1 = some w) (o : Out) (hk : f46_broughamref31_Parse_L6_k w o), At Go.Proofs.Try.prog Go.Proofs.Try.f46 0 6 ⟨[(0, .one (.c (.d (.int .u32 wait)))), (3, .one (.c (.ptr 0 0))), (6, .one (.c (.own 1 (.pair (.int .u32) (.int .u32)) out))), (7, .one (.c (.d (.int .u32 last)))), (8, .one (.c (.d (.int .i64 at_))))], [(1, some ⟨161, 0⟩)], [(0, [.d (.int .u8 o__0), .d (.sl (.int .u8) o__1)])], 2⟩ o := by
  induction n with
  | zero => intro wait out last at_ o__0 o__1 w h; rw [f46_broughamref31_Parse_L6] at h; cases h
  | succ n ih =>
    intro wait out last at_ o__0 o__1 w h o hk
    rw [f46_broughamref31_Parse_L6] at h
    rcases iteS h with ⟨b449_e0, h⟩ | ⟨b449_e0, h⟩
    · refine At.step hm ht ⟨[], [true], [], [0, 3, 6, 7, 8], [0, 1]⟩ 8 ⟨[(0, .one (.c (.d (.int .u32 wait)))), (3, .one (.c (.ptr 0 0))), (6, .one (.c (.own 1 (.pair (.int .u32) (.int .u32)) out))), (7, .one (.c (.d (.int .u32 last)))), (8, .one (.c (.d (.int .i64 at_))))], [(1, some ⟨161, 0⟩)], [(0, [.d (.int .u8 o__0), .d (.sl (.int .u8) o__1)])], 2⟩ [(decide ((at_ : Int) < ((o__1.length : Nat) : Int))) = true] (by kernel_rfl) ⟨b449_e0, trivial⟩ ?_
      obtain ⟨g450_0, h⟩ := ifS h
      obtain ⟨r450_1, cr450_1, h⟩ := bindS h
      refine At.step hm ht ⟨[(5, .call [] [] (f85_broughamref02_All_out r450_1))], [], [], [0, 3, 6, 7, 8, 9], [0, 1, 7]⟩ 9 ⟨[(0, .one (.c (.d (.int .u32 wait)))), (3, .one (.c (.ptr 0 0))), (6, .one (.c (.own 1 (.pair (.int .u32) (.int .u32)) out))), (7, .one (.c (.d (.int .u32 last)))), (8, .one (.c (.d (.int .i64 at_)))), (9, .one (.c (.own 2 (.int .u64) r450_1.1)))], [(1, some ⟨161, 0⟩), (2, some ⟨22, 0⟩)], [(0, [.d (.int .u8 o__0), .d (.sl (.int .u8) o__1)])], 3⟩ [cutOk o__1.length (some at_) none none, FnOK Go.Proofs.Try.prog 85 (f85_broughamref02_All_in ((o__1.take o__1.length).drop at_.toNat) [4, 4]) (f85_broughamref02_All_out r450_1)] (by kernel_rfl) ⟨g450_0, (f85_broughamref02_All_ok n ((o__1.take o__1.length).drop at_.toNat) [4, 4] r450_1 cr450_1), trivial⟩ ?_
      obtain ⟨g451_0, h⟩ := ifS h
      refine At.step hm ht ⟨[], [], [], [0, 3, 6, 8, 9, 12], [0, 1, 2, 10]⟩ 10 ⟨[(0, .one (.c (.d (.int .u32 wait)))), (3, .one (.c (.ptr 0 0))), (6, .one (.c (.own 1 (.pair (.int .u32) (.int .u32)) out))), (8, .one (.c (.d (.int .i64 at_)))), (9, .one (.c (.own 2 (.int .u64) r450_1.1))), (12, .one (.c (.ptr 3 0)))], [(1, some ⟨161, 0⟩), (2, some ⟨22, 0⟩)], [(0, [.d (.int .u8 o__0), .d (.sl (.int .u8) o__1)]), (3, [.d (.int .u32 (IntKind.wrap .u32 (last + (IntKind.wrap .u32 (r450_1.1.getD 0 0))))), .d (.int .u32 0)])], 4⟩ [(0 : Int) ≤ 0 ∧ 0 < (((r450_1.1).length : Nat) : Int), 0 + 2 ≤ 2] (by kernel_rfl) ⟨g451_0, (by decide), trivial⟩ ?_
      obtain ⟨g452_0, h⟩ := ifS h
      refine At.step hm ht ⟨[], [], [], [0, 3, 6, 8, 12], [0, 1, 3]⟩ 11 ⟨[(0, .one (.c (.d (.int .u32 wait)))), (3, .one (.c (.ptr 0 0))), (6, .one (.c (.own 1 (.pair (.int .u32) (.int .u32)) out))), (8, .one (.c (.d (.int .i64 at_)))), (12, .one (.c (.ptr 2 0)))], [(1, some ⟨161, 0⟩)], [(0, [.d (.int .u8 o__0), .d (.sl (.int .u8) o__1)]), (2, [.d (.int .u32 (IntKind.wrap .u32 (last + (IntKind.wrap .u32 (r450_1.1.getD 0 0))))), .d (.int .u32 (IntKind.wrap .u32 ((IntKind.wrap .u32 (last + (IntKind.wrap .u32 (r450_1.1.getD 0 0)))) + (IntKind.wrap .u32 (r450_1.1.getD 1 0)))))])], 3⟩ [(0 : Int) ≤ 1 ∧ 1 < (((r450_1.1).length : Nat) : Int), 1 + 1 ≤ 2] (by kernel_rfl) ⟨g452_0, (by decide), trivial⟩ ?_
      obtain ⟨g453_0, h⟩ := ifS h
      refine At.step hm ht ⟨[], [], [], [0, 3, 6, 8, 12], [0, 6, 2]⟩ 12 ⟨[(0, .one (.c (.d (.int .u32 wait)))), (3, .one (.c (.ptr 0 0))), (6, .one (.c (.own 1 (.pair (.int .u32) (.int .u32)) (out ++ [((IntKind.wrap .u32 (last + (IntKind.wrap .u32 (r450_1.1.getD 0 0)))), (IntKind.wrap .u32 ((IntKind.wrap .u32 (last + (IntKind.wrap .u32 (r450_1.1.getD 0 0)))) + (IntKind.wrap .u32 (r450_1.1.getD 1 0)))))])))), (8, .one (.c (.d (.int .i64 at_)))), (12, .one (.c (.ptr 2 0)))], [(1, some ⟨161, 0⟩)], [(0, [.d (.int .u8 o__0), .d (.sl (.int .u8) o__1)]), (2, [.d (.int .u32 (IntKind.wrap .u32 (last + (IntKind.wrap .u32 (r450_1.1.getD 0 0))))), .d (.int .u32 (IntKind.wrap .u32 ((IntKind.wrap .u32 (last + (IntKind.wrap .u32 (r450_1.1.getD 0 0)))) + (IntKind.wrap .u32 (r450_1.1.getD 1 0)))))])], 3⟩ [out.length + [((IntKind.wrap .u32 (last + (IntKind.wrap .u32 (r450_1.1.getD 0 0)))), (IntKind.wrap .u32 ((IntKind.wrap .u32 (last + (IntKind.wrap .u32 (r450_1.1.getD 0 0)))) + (IntKind.wrap .u32 (r450_1.1.getD 1 0)))))].length ≤ maxLen ∧ (out.length + [((IntKind.wrap .u32 (last + (IntKind.wrap .u32 (r450_1.1.getD 0 0)))), (IntKind.wrap .u32 ((IntKind.wrap .u32 (last + (IntKind.wrap .u32 (r450_1.1.getD 0 0)))) + (IntKind.wrap .u32 (r450_1.1.getD 1 0)))))].length) * 8 ≤ 140737488355328] (by kernel_rfl) ⟨g453_0, trivial⟩ ?_
      refine At.step hm ht ⟨[], [], [], [0, 3, 6, 7, 8], [0, 1]⟩ 7 ⟨[(0, .one (.c (.d (.int .u32 wait)))), (3, .one (.c (.ptr 0 0))), (6, .one (.c (.own 1 (.pair (.int .u32) (.int .u32)) (out ++ [((IntKind.wrap .u32 (last + (IntKind.wrap .u32 (r450_1.1.getD 0 0)))), (IntKind.wrap .u32 ((IntKind.wrap .u32 (last + (IntKind.wrap .u32 (r450_1.1.getD 0 0)))) + (IntKind.wrap .u32 (r450_1.1.getD 1 0)))))])))), (7, .one (.c (.d (.int .u32 (IntKind.wrap .u32 ((IntKind.wrap .u32 (last + (IntKind.wrap .u32 (r450_1.1.getD 0 0)))) + (IntKind.wrap .u32 (r450_1.1.getD 1 0)))))))), (8, .one (.c (.d (.int .i64 at_))))], [(1, some ⟨161, 0⟩)], [(0, [.d (.int .u8 o__0), .d (.sl (.int .u8) o__1)])], 2⟩ [] (by kernel_rfl) trivial ?_
      refine At.step hm ht ⟨[], [], [], [0, 3, 6, 7, 8], [0, 1]⟩ 6 ⟨[(0, .one (.c (.d (.int .u32 wait)))), (3, .one (.c (.ptr 0 0))), (6, .one (.c (.own 1 (.pair (.int .u32) (.int .u32)) (out ++ [((IntKind.wrap .u32 (last + (IntKind.wrap .u32 (r450_1.1.getD 0 0)))), (IntKind.wrap .u32 ((IntKind.wrap .u32 (last + (IntKind.wrap .u32 (r450_1.1.getD 0 0)))) + (IntKind.wrap .u32 (r450_1.1.getD 1 0)))))])))), (7, .one (.c (.d (.int .u32 (IntKind.wrap .u32 ((IntKind.wrap .u32 (last + (IntKind.wrap .u32 (r450_1.1.getD 0 0)))) + (IntKind.wrap .u32 (r450_1.1.getD 1 0)))))))), (8, .one (.c (.d (.int .i64 (IntKind.wrap .i64 (at_ + 8))))))], [(1, some ⟨161, 0⟩)], [(0, [.d (.int .u8 o__0), .d (.sl (.int .u8) o__1)])], 2⟩ [] (by kernel_rfl) trivial ?_
      exact ih wait (out ++ [((IntKind.wrap .u32 (last + (IntKind.wrap .u32 (r450_1.1.getD 0 0)))), (IntKind.wrap .u32 ((IntKind.wrap .u32 (last + (IntKind.wrap .u32 (r450_1.1.getD 0 0)))) + (IntKind.wrap .u32 (r450_1.1.getD 1 0)))))]) (IntKind.wrap .u32 ((IntKind.wrap .u32 (last + (IntKind.wrap .u32 (r450_1.1.getD 0 0)))) + (IntKind.wrap .u32 (r450_1.1.getD 1 0)))) (IntKind.wrap .i64 (at_ + 8)) o__0 o__1 w h o hk
    · refine At.step hm ht ⟨[], [false], [], [0, 6], [1]⟩ 13 ⟨[(0, .one (.c (.d (.int .u32 wait)))), (6, .one (.c (.own 0 (.pair (.int .u32) (.int .u32)) out)))], [(0, some ⟨161, 0⟩)], [], 1⟩ [(decide ((at_ : Int) < ((o__1.length : Nat) : Int))) = false] (by kernel_rfl) ⟨b449_e0, trivial⟩ ?_
      have h := Option.some.inj h
      subst h
      exact hk
def f46_broughamref31_Parse (n : Nat) (wait : Int) (o__0 : Int) (o__1 : List Int) : Option ((List (Int × Int)) × Bool) :=
  if ((o__0 : Int) != 9) = true then
    some ([], false)
  else
    if ((((o__1.length : Nat) : Int) : Int) == 0) = true then
      some ([], false)
    else
      if (((Int.tmod ((o__1.length : Nat) : Int) 8) : Int) != 0) = true then
        some ([], false)
      else
        if (decide ((((o__1.length : Nat) : Int) : Int) > 32)) = true then
          some ([], false)
        else
          (f46_broughamref31_Parse_L6 n wait [] wait 0 o__0 o__1).bind fun w456 =>
          (f48_broughamref31_Right n w456.1 w456.2).bind fun r458_0 =>
          if (!r458_0) = true then
            some ([], false)
          else
            some (w456.2, true)
theorem f46_broughamref31_Parse_ok (n : Nat) (wait : Int) (o__0 : Int) (o__1 : List Int) (r : (List (Int × Int)) × Bool) (h : f46_broughamref31_Parse n wait o__0 o__1 = some r) : FnOK Go.Proofs.Try.prog 46 (f46_broughamref31_Parse_in wait o__0 o__1) (f46_broughamref31_Parse_out r) := by
  unfold f46_broughamref31_Parse at h
  refine At.fn (r := 0) Go.Proofs.Try.func46 rfl (by kernel_rfl) rfl rfl (by kernel_rfl) ?_
  show At Go.Proofs.Try.prog Go.Proofs.Try.f46 0 0 ⟨[(0, .one (.c (.d (.int .u32 wait)))), (1, .one (.agg [.d (.int .u8 o__0), .d (.sl (.int .u8) o__1)]))], [], [], 0⟩ _
  refine At.step hm ht ⟨[], [], [], [0, 3], [0]⟩ 1 ⟨[(0, .one (.c (.d (.int .u32 wait)))), (3, .one (.c (.ptr 0 0)))], [], [(0, [.d (.int .u8 o__0), .d (.sl (.int .u8) o__1)])], 1⟩ [] (by kernel_rfl) trivial ?_
  rcases iteS h with ⟨b441_3, h⟩ | ⟨b441_3, h⟩
  · refine At.step hm ht ⟨[(3, .b true)], [true], [], [], []⟩ 2 ⟨[], [], [], 0⟩ [((o__0 : Int) != 9) = true, true = true] (by kernel_rfl) ⟨b441_3, rfl, trivial⟩ ?_
    have h := Option.some.inj h
    subst h
    exact At.fin hm ht ⟨[], [], [.nil false 4 0 (.pair (.int .u32) (.int .u32)) (some 161)], [4, 5], [2]⟩ [] (by kernel_rfl) trivial
  · rcases iteS h with ⟨b441_9, h⟩ | ⟨b441_9, h⟩
    · refine At.step hm ht ⟨[(3, .b false), (9, .b true)], [true], [], [], []⟩ 2 ⟨[], [], [], 0⟩ [((o__0 : Int) != 9) = false, ((((o__1.length : Nat) : Int) : Int) == 0) = true, true = true] (by kernel_rfl) ⟨b441_3, b441_9, rfl, trivial⟩ ?_
      have h := Option.some.inj h
      subst h
      exact At.fin hm ht ⟨[], [], [.nil false 4 0 (.pair (.int .u32) (.int .u32)) (some 161)], [4, 5], [2]⟩ [] (by kernel_rfl) trivial
    · rcases iteS h with ⟨b441_16, h⟩ | ⟨b441_16, h⟩
      · refine At.step hm ht ⟨[(3, .b false), (9, .b false), (16, .b true)], [true], [], [], []⟩ 2 ⟨[], [], [], 0⟩ [((o__0 : Int) != 9) = false, ((((o__1.length : Nat) : Int) : Int) == 0) = false, (8 : Int) ≠ 0, (((Int.tmod ((o__1.length : Nat) : Int) 8) : Int) != 0) = true, true = true] (by kernel_rfl) ⟨b441_3, b441_9, (by decide), b441_16, rfl, trivial⟩ ?_
        have h := Option.some.inj h
        subst h
        exact At.fin hm ht ⟨[], [], [.nil false 4 0 (.pair (.int .u32) (.int .u32)) (some 161)], [4, 5], [2]⟩ [] (by kernel_rfl) trivial
      · rcases iteS h with ⟨b441_e0, h⟩ | ⟨b441_e0, h⟩
        · refine At.step hm ht ⟨[(3, .b false), (9, .b false), (16, .b false)], [true], [], [], []⟩ 2 ⟨[], [], [], 0⟩ [((o__0 : Int) != 9) = false, ((((o__1.length : Nat) : Int) : Int) == 0) = false, (8 : Int) ≠ 0, (((Int.tmod ((o__1.length : Nat) : Int) 8) : Int) != 0) = false, (decide ((((o__1.length : Nat) : Int) : Int) > 32)) = true] (by kernel_rfl) ⟨b441_3, b441_9, (by decide), b441_16, b441_e0, trivial⟩ ?_
          have h := Option.some.inj h
          subst h
          exact At.fin hm ht ⟨[], [], [.nil false 4 0 (.pair (.int .u32) (.int .u32)) (some 161)], [4, 5], [2]⟩ [] (by kernel_rfl) trivial
        · refine At.step hm ht ⟨[(3, .b false), (9, .b false), (16, .b false)], [false], [], [0, 3], [0]⟩ 3 ⟨[(0, .one (.c (.d (.int .u32 wait)))), (3, .one (.c (.ptr 0 0)))], [], [(0, [.d (.int .u8 o__0), .d (.sl (.int .u8) o__1)])], 1⟩ [((o__0 : Int) != 9) = false, ((((o__1.length : Nat) : Int) : Int) == 0) = false, (8 : Int) ≠ 0, (((Int.tmod ((o__1.length : Nat) : Int) 8) : Int) != 0) = false, (decide ((((o__1.length : Nat) : Int) : Int) > 32)) = false] (by kernel_rfl) ⟨b441_3, b441_9, (by decide), b441_16, b441_e0, trivial⟩ ?_
          refine At.step hm ht ⟨[], [], [], [0, 3, 6], [0]⟩ 4 ⟨[(0, .one (.c (.d (.int .u32 wait)))), (3, .one (.c (.ptr 0 0))), (6, .one (.c (.d (.sl .unit []))))], [], [(0, [.d (.int .u8 o__0), .d (.sl (.int .u8) o__1)])], 1⟩ [] (by kernel_rfl) trivial ?_
          refine At.step hm ht ⟨[], [], [], [0, 3, 6, 7], [0]⟩ 5 ⟨[(0, .one (.c (.d (.int .u32 wait)))), (3, .one (.c (.ptr 0 0))), (6, .one (.c (.d (.sl .unit [])))), (7, .one (.c (.d (.int .u32 wait))))], [], [(0, [.d (.int .u8 o__0), .d (.sl (.int .u8) o__1)])], 1⟩ [] (by kernel_rfl) trivial ?_
          refine At.step hm ht ⟨[], [], [.nil false 6 0 (.pair (.int .u32) (.int .u32)) (some 161)], [0, 3, 6, 7, 8], [0, 2]⟩ 6 ⟨[(0, .one (.c (.d (.int .u32 wait)))), (3, .one (.c (.ptr 0 0))), (6, .one (.c (.own 1 (.pair (.int .u32) (.int .u32)) []))), (7, .one (.c (.d (.int .u32 wait)))), (8, .one (.c (.d (.int .i64 0))))], [(1, some ⟨161, 0⟩)], [(0, [.d (.int .u8 o__0), .d (.sl (.int .u8) o__1)])], 2⟩ [] (by kernel_rfl) trivial ?_
          obtain ⟨w456, cw456, h⟩ := bindS h
          refine f46_broughamref31_Parse_L6_ok n wait [] wait 0 o__0 o__1 w456 cw456 _ ?_
          show At Go.Proofs.Try.prog Go.Proofs.Try.f46 0 13 ⟨[(0, .one (.c (.d (.int .u32 w456.1)))), (6, .one (.c (.own 0 (.pair (.int .u32) (.int .u32)) w456.2)))], [(0, some ⟨161, 0⟩)], [], 1⟩ _
          obtain ⟨r458_0, cr458_0, h⟩ := bindS h
          rcases iteS h with ⟨b458_e0, h⟩ | ⟨b458_e0, h⟩
          · refine At.step hm ht ⟨[(2, .call [] [] (f48_broughamref31_Right_out r458_0))], [true], [], [], []⟩ 14 ⟨[], [], [], 0⟩ [FnOK Go.Proofs.Try.prog 48 (f48_broughamref31_Right_in w456.1 w456.2) (f48_broughamref31_Right_out r458_0), (!r458_0) = true] (by kernel_rfl) ⟨(f48_broughamref31_Right_ok n w456.1 w456.2 r458_0 cr458_0), b458_e0, trivial⟩ ?_
            have h := Option.some.inj h
            subst h
            exact At.fin hm ht ⟨[], [], [.nil false 4 0 (.pair (.int .u32) (.int .u32)) (some 161)], [4, 5], [2]⟩ [] (by kernel_rfl) trivial
          · refine At.step hm ht ⟨[(2, .call [] [] (f48_broughamref31_Right_out r458_0))], [false], [], [6], [0]⟩ 15 ⟨[(6, .one (.c (.own 0 (.pair (.int .u32) (.int .u32)) w456.2)))], [(0, some ⟨161, 0⟩)], [], 1⟩ [FnOK Go.Proofs.Try.prog 48 (f48_broughamref31_Right_in w456.1 w456.2) (f48_broughamref31_Right_out r458_0), (!r458_0) = false] (by kernel_rfl) ⟨(f48_broughamref31_Right_ok n w456.1 w456.2 r458_0 cr458_0), b458_e0, trivial⟩ ?_
            have h := Option.some.inj h
            subst h
            exact At.fin hm ht ⟨[], [], [], [4, 5], [0]⟩ [] (by kernel_rfl) trivial
/-! brougham/broughamref07.SameOption -/
def f49_broughamref07_SameOption_in (a_0 : Int) (a_1 : List Int) (b_0 : Int) (b_1 : List Int) : Inn := ⟨[.agg [.d (.int .u8 a_0), .d (.sl (.int .u8) a_1)], .agg [.d (.int .u8 b_0), .d (.sl (.int .u8) b_1)]], [], [], 0⟩
def f49_broughamref07_SameOption_out (r : Bool) : Out := ⟨.one (.c (.d (.bool r))), [], [], 0⟩
def f49_broughamref07_SameOption (a_0 : Int) (a_1 : List Int) (b_0 : Int) (b_1 : List Int) : Option (Bool) :=
  if ((a_0 : Int) == b_0) = true then
    some ((strOfNums a_1).toList == (strOfNums b_1).toList)
  else
    some false
theorem f49_broughamref07_SameOption_ok (a_0 : Int) (a_1 : List Int) (b_0 : Int) (b_1 : List Int) (r : Bool) (h : f49_broughamref07_SameOption a_0 a_1 b_0 b_1 = some r) : FnOK Go.Proofs.Try.prog 49 (f49_broughamref07_SameOption_in a_0 a_1 b_0 b_1) (f49_broughamref07_SameOption_out r) := by
  unfold f49_broughamref07_SameOption at h
  refine At.fn (r := 0) Go.Proofs.Try.func49 rfl (by kernel_rfl) rfl rfl (by kernel_rfl) ?_
  show At Go.Proofs.Try.prog Go.Proofs.Try.f49 0 0 ⟨[(0, .one (.agg [.d (.int .u8 a_0), .d (.sl (.int .u8) a_1)])), (1, .one (.agg [.d (.int .u8 b_0), .d (.sl (.int .u8) b_1)]))], [], [], 0⟩ _
  refine At.step hm ht ⟨[], [], [], [2, 3], [0, 1]⟩ 1 ⟨[(2, .one (.c (.ptr 0 0))), (3, .one (.c (.ptr 1 0)))], [], [(0, [.d (.int .u8 a_0), .d (.sl (.int .u8) a_1)]), (1, [.d (.int .u8 b_0), .d (.sl (.int .u8) b_1)])], 2⟩ [] (by kernel_rfl) trivial ?_
  rcases iteS h with ⟨b463_5, h⟩ | ⟨b463_5, h⟩
  · have h := Option.some.inj h
    subst h
    exact At.fin hm ht ⟨[(5, .b true)], [], [], [4], []⟩ [((a_0 : Int) == b_0) = true] (by kernel_rfl) ⟨b463_5, trivial⟩
  · have h := Option.some.inj h
    subst h
    exact At.fin hm ht ⟨[(5, .b false)], [], [], [4], []⟩ [((a_0 : Int) == b_0) = false] (by kernel_rfl) ⟨b463_5, trivial⟩
/-! brougham/broughamlaw31.same -/
def f35_broughamlaw31_same_in (a : List (Int × Int)) (b : List (Int × Int)) : Inn := ⟨[.c (.d (.sl (.pair (.int .u32) (.int .u32)) a)), .c (.d (.sl (.pair (.int .u32) (.int .u32)) b))], [], [], 0⟩
def f35_broughamlaw31_same_out (r : Bool) : Out := ⟨.one (.c (.d (.bool r))), [], [], 0⟩
def f35_broughamlaw31_same_L4 : Nat → (List (Int × Int)) → (List (Int × Int)) → Int → Option ((Bool) ⊕ (Unit))
  | 0, _, _, _ => none
  | n + 1, a, b, i =>
    if (decide ((i : Int) < ((a.length : Nat) : Int))) = true then
      if (0 : Int) ≤ i ∧ i < (((a).length : Nat) : Int) then
      if (0 : Int) ≤ i ∧ i < (((b).length : Nat) : Int) then
      if (!(((((a.getD i.toNat (0, 0)).1) : Int) == ((b.getD i.toNat (0, 0)).1)) && ((((a.getD i.toNat (0, 0)).2) : Int) == ((b.getD i.toNat (0, 0)).2)))) = true then
        some (.inl false)
      else
        f35_broughamlaw31_same_L4 n a b (IntKind.wrap .i64 (i + 1))
      else none
      else none
    else
      some (.inr ())
def f35_broughamlaw31_same_L4_k (w : (Bool) ⊕ (Unit)) (o : Out) : Prop := match w with
  | .inl e => o = f35_broughamlaw31_same_out e
  | .inr e => At Go.Proofs.Try.prog Go.Proofs.Try.f35 0 8 ⟨[], [], [], 0⟩ o
theorem f35_broughamlaw31_same_L4_ok (n : Nat) : ∀ (a : List (Int × Int)) (b : List (Int × Int)) (i : Int) (w : (Bool) ⊕ (Unit)) (h : f35_broughamlaw31_same_L4 n a b i = some w) (o : Out) (hk : f35_broughamlaw31_same_L4_k w o), At Go.Proofs.Try.prog Go.Proofs.Try.f35 0 4 ⟨[(0, .one (.c (.d (.sl (.pair (.int .u32) (.int .u32)) a)))), (1, .one (.c (.d (.sl (.pair (.int .u32) (.int .u32)) b)))), (5, .one (.c (.d (.int .i64 i))))], [], [], 0⟩ o := by
  induction n with
  | zero => intro a b i w h; rw [f35_broughamlaw31_same_L4] at h; cases h
  | succ n ih =>
    intro a b i w h o hk
    rw [f35_broughamlaw31_same_L4] at h
    rcases iteS h with ⟨b468_e0, h⟩ | ⟨b468_e0, h⟩
    · refine At.step hm ht ⟨[], [true], [], [0, 1, 5], []⟩ 6 ⟨[(0, .one (.c (.d (.sl (.pair (.int .u32) (.int .u32)) a)))), (1, .one (.c (.d (.sl (.pair (.int .u32) (.int .u32)) b)))), (5, .one (.c (.d (.int .i64 i))))], [], [], 0⟩ [(decide ((i : Int) < ((a.length : Nat) : Int))) = true] (by kernel_rfl) ⟨b468_e0, trivial⟩ ?_
      obtain ⟨g469_0, h⟩ := ifS h
      obtain ⟨g469_1, h⟩ := ifS h
      rcases iteS h with ⟨b469_e0, h⟩ | ⟨b469_e0, h⟩
      · refine At.step hm ht ⟨[], [true], [], [], []⟩ 7 ⟨[], [], [], 0⟩ [(0 : Int) ≤ i ∧ i < (((a).length : Nat) : Int), (0 : Int) ≤ i ∧ i < (((b).length : Nat) : Int), (!(((((a.getD i.toNat (0, 0)).1) : Int) == ((b.getD i.toNat (0, 0)).1)) && ((((a.getD i.toNat (0, 0)).2) : Int) == ((b.getD i.toNat (0, 0)).2)))) = true] (by kernel_rfl) ⟨g469_0, g469_1, b469_e0, trivial⟩ ?_
        have h := Option.some.inj h
        subst h
        have hk : o = f35_broughamlaw31_same_out false := hk
        subst hk
        exact At.fin hm ht ⟨[], [], [], [4], []⟩ [] (by kernel_rfl) trivial
      · refine At.step hm ht ⟨[], [false], [], [0, 1, 5], []⟩ 5 ⟨[(0, .one (.c (.d (.sl (.pair (.int .u32) (.int .u32)) a)))), (1, .one (.c (.d (.sl (.pair (.int .u32) (.int .u32)) b)))), (5, .one (.c (.d (.int .i64 i))))], [], [], 0⟩ [(0 : Int) ≤ i ∧ i < (((a).length : Nat) : Int), (0 : Int) ≤ i ∧ i < (((b).length : Nat) : Int), (!(((((a.getD i.toNat (0, 0)).1) : Int) == ((b.getD i.toNat (0, 0)).1)) && ((((a.getD i.toNat (0, 0)).2) : Int) == ((b.getD i.toNat (0, 0)).2)))) = false] (by kernel_rfl) ⟨g469_0, g469_1, b469_e0, trivial⟩ ?_
        refine At.step hm ht ⟨[], [], [], [0, 1, 5], []⟩ 4 ⟨[(0, .one (.c (.d (.sl (.pair (.int .u32) (.int .u32)) a)))), (1, .one (.c (.d (.sl (.pair (.int .u32) (.int .u32)) b)))), (5, .one (.c (.d (.int .i64 (IntKind.wrap .i64 (i + 1))))))], [], [], 0⟩ [] (by kernel_rfl) trivial ?_
        exact ih a b (IntKind.wrap .i64 (i + 1)) w h o hk
    · refine At.step hm ht ⟨[], [false], [], [], []⟩ 8 ⟨[], [], [], 0⟩ [(decide ((i : Int) < ((a.length : Nat) : Int))) = false] (by kernel_rfl) ⟨b468_e0, trivial⟩ ?_
      have h := Option.some.inj h
      subst h
      exact hk
def f35_broughamlaw31_same (n : Nat) (a : List (Int × Int)) (b : List (Int × Int)) : Option (Bool) :=
  if ((((a.length : Nat) : Int) : Int) != ((b.length : Nat) : Int)) = true then
    some false
  else
    (f35_broughamlaw31_same_L4 n a b 0).bind fun w472 =>
    match w472 with
    | .inl e473 =>
      some e473
    | .inr e474 =>
      some true
theorem f35_broughamlaw31_same_ok (n : Nat) (a : List (Int × Int)) (b : List (Int × Int)) (r : Bool) (h : f35_broughamlaw31_same n a b = some r) : FnOK Go.Proofs.Try.prog 35 (f35_broughamlaw31_same_in a b) (f35_broughamlaw31_same_out r) := by
  unfold f35_broughamlaw31_same at h
  refine At.fn (r := 0) Go.Proofs.Try.func35 rfl (by kernel_rfl) rfl rfl (by kernel_rfl) ?_
  show At Go.Proofs.Try.prog Go.Proofs.Try.f35 0 0 ⟨[(0, .one (.c (.d (.sl (.pair (.int .u32) (.int .u32)) a)))), (1, .one (.c (.d (.sl (.pair (.int .u32) (.int .u32)) b))))], [], [], 0⟩ _
  refine At.step hm ht ⟨[], [], [], [0, 1], []⟩ 1 ⟨[(0, .one (.c (.d (.sl (.pair (.int .u32) (.int .u32)) a)))), (1, .one (.c (.d (.sl (.pair (.int .u32) (.int .u32)) b))))], [], [], 0⟩ [] (by kernel_rfl) trivial ?_
  rcases iteS h with ⟨b465_e0, h⟩ | ⟨b465_e0, h⟩
  · refine At.step hm ht ⟨[], [true], [], [], []⟩ 2 ⟨[], [], [], 0⟩ [((((a.length : Nat) : Int) : Int) != ((b.length : Nat) : Int)) = true] (by kernel_rfl) ⟨b465_e0, trivial⟩ ?_
    have h := Option.some.inj h
    subst h
    exact At.fin hm ht ⟨[], [], [], [4], []⟩ [] (by kernel_rfl) trivial
  · refine At.step hm ht ⟨[], [false], [], [0, 1], []⟩ 3 ⟨[(0, .one (.c (.d (.sl (.pair (.int .u32) (.int .u32)) a)))), (1, .one (.c (.d (.sl (.pair (.int .u32) (.int .u32)) b))))], [], [], 0⟩ [((((a.length : Nat) : Int) : Int) != ((b.length : Nat) : Int)) = false] (by kernel_rfl) ⟨b465_e0, trivial⟩ ?_
    refine At.step hm ht ⟨[], [], [], [0, 1, 5], []⟩ 4 ⟨[(0, .one (.c (.d (.sl (.pair (.int .u32) (.int .u32)) a)))), (1, .one (.c (.d (.sl (.pair (.int .u32) (.int .u32)) b)))), (5, .one (.c (.d (.int .i64 0))))], [], [], 0⟩ [] (by kernel_rfl) trivial ?_
    obtain ⟨w472, cw472, h⟩ := bindS h
    refine f35_broughamlaw31_same_L4_ok n a b 0 w472 cw472 _ ?_
    rcases w472 with e473 | e474
    · have h := Option.some.inj h
      subst h
      rfl
    · show At Go.Proofs.Try.prog Go.Proofs.Try.f35 0 8 ⟨[], [], [], 0⟩ _
      have h := Option.some.inj h
      subst h
      exact At.fin hm ht ⟨[], [], [], [4], []⟩ [] (by kernel_rfl) trivial
/-! brougham/sack.New -/
def f31_sack_New_in (wait : Int) (most : Int) : Inn := ⟨[.c (.d (.int .u32 wait)), .c (.d (.int .i64 most))], [], [], 0⟩
def f31_sack_New_out (r : Int × Int) : Out := ⟨.one (.c (.ptr 0 0)), [], [(0, [.d (.int .u32 r.1), .d (.int .i64 r.2), .d (.sl .unit [])])], 1⟩
def f31_sack_New (wait : Int) (most : Int) : Option (Int × Int) :=
  some (wait, (if 64 < (if most < 1 then 1 else most) then 64 else (if most < 1 then 1 else most)))
theorem f31_sack_New_ok (wait : Int) (most : Int) (r : Int × Int) (h : f31_sack_New wait most = some r) : FnOK Go.Proofs.Try.prog 31 (f31_sack_New_in wait most) (f31_sack_New_out r) := by
  unfold f31_sack_New at h
  refine At.fn (r := 0) Go.Proofs.Try.func31 rfl (by kernel_rfl) rfl rfl (by kernel_rfl) ?_
  show At Go.Proofs.Try.prog Go.Proofs.Try.f31 0 0 ⟨[(0, .one (.c (.d (.int .u32 wait)))), (1, .one (.c (.d (.int .i64 most))))], [], [], 0⟩ _
  refine At.step hm ht ⟨[], [], [], [0, 1], []⟩ 1 ⟨[(0, .one (.c (.d (.int .u32 wait)))), (1, .one (.c (.d (.int .i64 most))))], [], [], 0⟩ [] (by kernel_rfl) trivial ?_
  have h := Option.some.inj h
  subst h
  exact At.fin hm ht ⟨[], [], [], [4], [5]⟩ [] (by kernel_rfl) trivial
/-! brougham/serial.Within -/
def f127_serial_Within_in (x : Int) (from_ : Int) (size : Int) : Inn := ⟨[.c (.d (.int .u32 x)), .c (.d (.int .u32 from_)), .c (.d (.int .u32 size))], [], [], 0⟩
def f127_serial_Within_out (r : Bool) : Out := ⟨.one (.c (.d (.bool r))), [], [], 0⟩
def f127_serial_Within (x : Int) (from_ : Int) (size : Int) : Option (Bool) :=
  some (decide (((IntKind.wrap .u32 (x - from_)) : Int) < size))
theorem f127_serial_Within_ok (x : Int) (from_ : Int) (size : Int) (r : Bool) (h : f127_serial_Within x from_ size = some r) : FnOK Go.Proofs.Try.prog 127 (f127_serial_Within_in x from_ size) (f127_serial_Within_out r) := by
  unfold f127_serial_Within at h
  refine At.fn (r := 0) Go.Proofs.Try.func127 rfl (by kernel_rfl) rfl rfl (by kernel_rfl) ?_
  show At Go.Proofs.Try.prog Go.Proofs.Try.f127 0 0 ⟨[(0, .one (.c (.d (.int .u32 x)))), (1, .one (.c (.d (.int .u32 from_)))), (2, .one (.c (.d (.int .u32 size))))], [], [], 0⟩ _
  refine At.step hm ht ⟨[], [], [], [0, 1, 2], []⟩ 1 ⟨[(0, .one (.c (.d (.int .u32 x)))), (1, .one (.c (.d (.int .u32 from_)))), (2, .one (.c (.d (.int .u32 size))))], [], [], 0⟩ [] (by kernel_rfl) trivial ?_
  have h := Option.some.inj h
  subst h
  exact At.fin hm ht ⟨[], [], [], [6], []⟩ [] (by kernel_rfl) trivial
/-! brougham/serial.Near -/
def f90_serial_Near_in (x : Int) (to_ : Int) (size : Int) : Inn := ⟨[.c (.d (.int .u32 x)), .c (.d (.int .u32 to_)), .c (.d (.int .u32 size))], [], [], 0⟩
def f90_serial_Near_out (r : Bool) : Out := ⟨.one (.c (.d (.bool r))), [], [], 0⟩
def f90_serial_Near (x : Int) (to_ : Int) (size : Int) : Option (Bool) :=
  (f127_serial_Within x to_ size).bind fun r490_0 =>
  if r490_0 = true then
    some true
  else
    (f127_serial_Within to_ x size).bind fun r490_1 =>
    some r490_1
theorem f90_serial_Near_ok (x : Int) (to_ : Int) (size : Int) (r : Bool) (h : f90_serial_Near x to_ size = some r) : FnOK Go.Proofs.Try.prog 90 (f90_serial_Near_in x to_ size) (f90_serial_Near_out r) := by
  unfold f90_serial_Near at h
  refine At.fn (r := 0) Go.Proofs.Try.func90 rfl (by kernel_rfl) rfl rfl (by kernel_rfl) ?_
  show At Go.Proofs.Try.prog Go.Proofs.Try.f90 0 0 ⟨[(0, .one (.c (.d (.int .u32 x)))), (1, .one (.c (.d (.int .u32 to_)))), (2, .one (.c (.d (.int .u32 size))))], [], [], 0⟩ _
  refine At.step hm ht ⟨[], [], [], [0, 1, 2], []⟩ 1 ⟨[(0, .one (.c (.d (.int .u32 x)))), (1, .one (.c (.d (.int .u32 to_)))), (2, .one (.c (.d (.int .u32 size))))], [], [], 0⟩ [] (by kernel_rfl) trivial ?_
  obtain ⟨r490_0, cr490_0, h⟩ := bindS h
  rcases iteS h with ⟨b490_4, h⟩ | ⟨b490_4, h⟩
  · have h := Option.some.inj h
    subst h
    exact At.fin hm ht ⟨[(3, .call [] [] (f127_serial_Within_out r490_0)), (4, .b true)], [], [], [6], []⟩ [FnOK Go.Proofs.Try.prog 127 (f127_serial_Within_in x to_ size) (f127_serial_Within_out r490_0), r490_0 = true] (by kernel_rfl) ⟨(f127_serial_Within_ok x to_ size r490_0 cr490_0), b490_4, trivial⟩
  · obtain ⟨r490_1, cr490_1, h⟩ := bindS h
    have h := Option.some.inj h
    subst h
    exact At.fin hm ht ⟨[(3, .call [] [] (f127_serial_Within_out r490_0)), (4, .b false), (8, .call [] [] (f127_serial_Within_out r490_1))], [], [], [6], []⟩ [FnOK Go.Proofs.Try.prog 127 (f127_serial_Within_in x to_ size) (f127_serial_Within_out r490_0), r490_0 = false, FnOK Go.Proofs.Try.prog 127 (f127_serial_Within_in to_ x size) (f127_serial_Within_out r490_1)] (by kernel_rfl) ⟨(f127_serial_Within_ok x to_ size r490_0 cr490_0), b490_4, (f127_serial_Within_ok to_ x size r490_1 cr490_1), trivial⟩
/-! brougham/serial.Less -/
def f91_serial_Less_in (a : Int) (b : Int) : Inn := ⟨[.c (.d (.int .u32 a)), .c (.d (.int .u32 b))], [], [], 0⟩
def f91_serial_Less_out (r : Bool) : Out := ⟨.one (.c (.d (.bool r))), [], [], 0⟩
def f91_serial_Less (a : Int) (b : Int) : Option (Bool) :=
  some (decide (((IntKind.wrap .i32 (IntKind.wrap .u32 (a - b))) : Int) < 0))
theorem f91_serial_Less_ok (a : Int) (b : Int) (r : Bool) (h : f91_serial_Less a b = some r) : FnOK Go.Proofs.Try.prog 91 (f91_serial_Less_in a b) (f91_serial_Less_out r) := by
  unfold f91_serial_Less at h
  refine At.fn (r := 0) Go.Proofs.Try.func91 rfl (by kernel_rfl) rfl rfl (by kernel_rfl) ?_
  show At Go.Proofs.Try.prog Go.Proofs.Try.f91 0 0 ⟨[(0, .one (.c (.d (.int .u32 a)))), (1, .one (.c (.d (.int .u32 b))))], [], [], 0⟩ _
  refine At.step hm ht ⟨[], [], [], [0, 1], []⟩ 1 ⟨[(0, .one (.c (.d (.int .u32 a)))), (1, .one (.c (.d (.int .u32 b))))], [], [], 0⟩ [] (by kernel_rfl) trivial ?_
  have h := Option.some.inj h
  subst h
  exact At.fin hm ht ⟨[], [], [], [4], []⟩ [] (by kernel_rfl) trivial
/-! (*brougham/sack.Board).near -/
def f92_sack_Board_near_in (n_ : Int) (x_0 : Int) (x_1 : Int) : Inn := ⟨[.c (.ptr 0 0), .c (.d (.int .u32 n_))], [], [(0, [.d (.int .u32 x_0), .d (.int .i64 x_1), .d (.sl .unit [])])], 1⟩
def f92_sack_Board_near_out (r : Bool × Int × Int) : Out := ⟨.one (.c (.d (.bool r.1))), [], [(0, [.d (.int .u32 r.2.1), .d (.int .i64 r.2.2), .d (.sl .unit [])])], 1⟩
def f92_sack_Board_near (n_ : Int) (x_0 : Int) (x_1 : Int) : Option (Bool × Int × Int) :=
  (f127_serial_Within n_ x_0 1048577).bind fun r499_0 =>
  some (r499_0, x_0, x_1)
theorem f92_sack_Board_near_ok (n_ : Int) (x_0 : Int) (x_1 : Int) (r : Bool × Int × Int) (h : f92_sack_Board_near n_ x_0 x_1 = some r) : FnOK Go.Proofs.Try.prog 92 (f92_sack_Board_near_in n_ x_0 x_1) (f92_sack_Board_near_out r) := by
  unfold f92_sack_Board_near at h
  refine At.fn (r := 0) Go.Proofs.Try.func92 rfl (by kernel_rfl) rfl rfl (by kernel_rfl) ?_
  show At Go.Proofs.Try.prog Go.Proofs.Try.f92 1 0 ⟨[(0, .one (.c (.ptr 0 0))), (1, .one (.c (.d (.int .u32 n_))))], [], [(0, [.d (.int .u32 x_0), .d (.int .i64 x_1), .d (.sl .unit [])])], 1⟩ _
  refine At.step hm ht ⟨[], [], [], [0, 1], [0]⟩ 1 ⟨[(0, .one (.c (.ptr 0 0))), (1, .one (.c (.d (.int .u32 n_))))], [], [(0, [.d (.int .u32 x_0), .d (.int .i64 x_1), .d (.sl .unit [])])], 1⟩ [] (by kernel_rfl) trivial ?_
  obtain ⟨r499_0, cr499_0, h⟩ := bindS h
  have h := Option.some.inj h
  subst h
  exact At.fin hm ht ⟨[(5, .call [] [] (f127_serial_Within_out r499_0))], [], [], [4], [0]⟩ [FnOK Go.Proofs.Try.prog 127 (f127_serial_Within_in n_ x_0 1048577) (f127_serial_Within_out r499_0)] (by kernel_rfl) ⟨(f127_serial_Within_ok n_ x_0 1048577 r499_0 cr499_0), trivial⟩
/-! brougham/serial.Max -/
def f128_serial_Max_in (a : Int) (b : Int) : Inn := ⟨[.c (.d (.int .u32 a)), .c (.d (.int .u32 b))], [], [], 0⟩
def f128_serial_Max_out (r : Int) : Out := ⟨.one (.c (.d (.int .u32 r))), [], [], 0⟩
def f128_serial_Max (a : Int) (b : Int) : Option (Int) :=
  (f91_serial_Less a b).bind fun r537_0 =>
  if r537_0 = true then
    some b
  else
    some a
theorem f128_serial_Max_ok (a : Int) (b : Int) (r : Int) (h : f128_serial_Max a b = some r) : FnOK Go.Proofs.Try.prog 128 (f128_serial_Max_in a b) (f128_serial_Max_out r) := by
  unfold f128_serial_Max at h
  refine At.fn (r := 0) Go.Proofs.Try.func128 rfl (by kernel_rfl) rfl rfl (by kernel_rfl) ?_
  show At Go.Proofs.Try.prog Go.Proofs.Try.f128 0 0 ⟨[(0, .one (.c (.d (.int .u32 a)))), (1, .one (.c (.d (.int .u32 b))))], [], [], 0⟩ _
  refine At.step hm ht ⟨[], [], [], [0, 1], []⟩ 1 ⟨[(0, .one (.c (.d (.int .u32 a)))), (1, .one (.c (.d (.int .u32 b))))], [], [], 0⟩ [] (by kernel_rfl) trivial ?_
  obtain ⟨r537_0, cr537_0, h⟩ := bindS h
  rcases iteS h with ⟨b537_e0, h⟩ | ⟨b537_e0, h⟩
  · refine At.step hm ht ⟨[(2, .call [] [] (f91_serial_Less_out r537_0))], [true], [], [1], []⟩ 2 ⟨[(1, .one (.c (.d (.int .u32 b))))], [], [], 0⟩ [FnOK Go.Proofs.Try.prog 91 (f91_serial_Less_in a b) (f91_serial_Less_out r537_0), r537_0 = true] (by kernel_rfl) ⟨(f91_serial_Less_ok a b r537_0 cr537_0), b537_e0, trivial⟩ ?_
    have h := Option.some.inj h
    subst h
    exact At.fin hm ht ⟨[], [], [], [4], []⟩ [] (by kernel_rfl) trivial
  · refine At.step hm ht ⟨[(2, .call [] [] (f91_serial_Less_out r537_0))], [false], [], [0], []⟩ 3 ⟨[(0, .one (.c (.d (.int .u32 a))))], [], [], 0⟩ [FnOK Go.Proofs.Try.prog 91 (f91_serial_Less_in a b) (f91_serial_Less_out r537_0), r537_0 = false] (by kernel_rfl) ⟨(f91_serial_Less_ok a b r537_0 cr537_0), b537_e0, trivial⟩ ?_
    have h := Option.some.inj h
    subst h
    exact At.fin hm ht ⟨[], [], [], [4], []⟩ [] (by kernel_rfl) trivial
/-! slices.Clone[[]brougham/sack.Block,brougham/sack.Block] -/
def f94_sack_Block_in (s : List (Int × Int)) : Inn := ⟨[.c (.d (.sl (.pair (.int .u32) (.int .u32)) s))], [], [], 0⟩
def f94_sack_Block_out (r : List (Int × Int)) : Out := ⟨.one (.c (.d (.sl (.pair (.int .u32) (.int .u32)) r))), [], [], 0⟩
def f94_sack_Block (s : List (Int × Int)) : Option (List (Int × Int)) :=
  if ([] : List (Int × Int)).length + s.length ≤ maxLen ∧ (([] : List (Int × Int)).length + s.length) * 8 ≤ 140737488355328 then
  some ([] ++ s)
  else none
theorem f94_sack_Block_ok (s : List (Int × Int)) (r : List (Int × Int)) (h : f94_sack_Block s = some r) : FnOK Go.Proofs.Try.prog 94 (f94_sack_Block_in s) (f94_sack_Block_out r) := by
  unfold f94_sack_Block at h
  refine At.fn (r := 0) Go.Proofs.Try.func94 rfl (by kernel_rfl) rfl rfl (by kernel_rfl) ?_
  show At Go.Proofs.Try.prog Go.Proofs.Try.f94 0 0 ⟨[(0, .one (.c (.d (.sl (.pair (.int .u32) (.int .u32)) s))))], [], [], 0⟩ _
  refine At.step hm ht ⟨[], [], [], [0], []⟩ 1 ⟨[(0, .one (.c (.d (.sl (.pair (.int .u32) (.int .u32)) s))))], [], [], 0⟩ [] (by kernel_rfl) trivial ?_
  refine At.nilS 0 (.pair (.int .u32) (.int .u32)) s rfl (fun e0 => ?_) ?_
  · subst e0
    have h : ((
      some []) : Option (List (Int × Int))) = some r := by first | exact h | (obtain ⟨_, h⟩ := ifS h; exact h)
    refine At.step hm ht ⟨[], [true], [], [], []⟩ 2 ⟨[], [], [], 0⟩ [true = true] (by kernel_rfl) ⟨rfl, trivial⟩ ?_
    have h := Option.some.inj h
    subst h
    exact At.fin hm ht ⟨[], [], [.nil false 2 0 (.pair (.int .u32) (.int .u32)) none], [2], []⟩ [] (by kernel_rfl) trivial
  · refine At.step hm ht ⟨[], [false], [], [0], []⟩ 3 ⟨[(0, .one (.c (.nn (.pair (.int .u32) (.int .u32)) s)))], [], [], 0⟩ [false = false] (by kernel_rfl) ⟨rfl, trivial⟩ ?_
    obtain ⟨g556_0, h⟩ := ifS h
    have h := Option.some.inj h
    subst h
    exact At.fin hm ht ⟨[], [], [], [2], []⟩ [([] : List (Int × Int)).length + s.length ≤ maxLen ∧ (([] : List (Int × Int)).length + s.length) * 8 ≤ 140737488355328] (by kernel_rfl) ⟨g556_0, trivial⟩
/-! (*brougham/sack.Board).put -/
def f93_sack_Board_put_in (b_0 : Int) (b_1 : Int) (x_0 : Int) (x_1 : Int) : Inn := ⟨[.c (.ptr 0 0), .agg [.d (.int .u32 b_0), .d (.int .u32 b_1)]], [], [(0, [.d (.int .u32 x_0), .d (.int .i64 x_1), .d (.sl .unit [])])], 1⟩
def f93_sack_Board_put_out (r : Bool × Int × Int × List (Int × Int)) : Out := ⟨.one (.c (.d (.bool r.1))), [], [(0, [.d (.int .u32 r.2.1), .d (.int .i64 r.2.2.1), .d (.sl (.pair (.int .u32) (.int .u32)) r.2.2.2)])], 1⟩
def f93_sack_Board_put_L4 : Nat → (List (Int × Int)) → Bool → (List (Int × Int)) → Int → Int → Int → Int → Int → Int → Option ((List (Int × Int)) × Bool × Int × Int × Int × Int)
  | 0, _, _, _, _, _, _, _, _, _ => none
  | n + 1, out, done, t12, t13, t14, x_0, x_1, b_0, b_1 =>
    if (decide ((t14 : Int) < t13)) = true then
      if (0 : Int) ≤ t14 ∧ t14 < (((t12).length : Nat) : Int) then
      (f91_serial_Less ((t12.getD t14.toNat (0, 0)).2) b_0).bind fun r566_0 =>
      if r566_0 = true then
        if out.length + [(t12.getD t14.toNat (0, 0))].length ≤ maxLen ∧ (out.length + [(t12.getD t14.toNat (0, 0))].length) * 8 ≤ 140737488355328 then
        f93_sack_Board_put_L4 n (out ++ [(t12.getD t14.toNat (0, 0))]) done t12 t13 (IntKind.wrap .i64 (t14 + 1)) x_0 x_1 b_0 b_1
        else none
      else
        (f91_serial_Less b_1 ((t12.getD t14.toNat (0, 0)).1)).bind fun r569_0 =>
        if r569_0 = true then
          if (!done) = true then
            if out.length + [(b_0, b_1)].length ≤ maxLen ∧ (out.length + [(b_0, b_1)].length) * 8 ≤ 140737488355328 then
            if (out ++ [(b_0, b_1)]).length + [(t12.getD t14.toNat (0, 0))].length ≤ maxLen ∧ ((out ++ [(b_0, b_1)]).length + [(t12.getD t14.toNat (0, 0))].length) * 8 ≤ 140737488355328 then
            f93_sack_Board_put_L4 n ((out ++ [(b_0, b_1)]) ++ [(t12.getD t14.toNat (0, 0))]) true t12 t13 (IntKind.wrap .i64 (t14 + 1)) x_0 x_1 b_0 b_1
            else none
            else none
          else
            if out.length + [(t12.getD t14.toNat (0, 0))].length ≤ maxLen ∧ (out.length + [(t12.getD t14.toNat (0, 0))].length) * 8 ≤ 140737488355328 then
            f93_sack_Board_put_L4 n (out ++ [(t12.getD t14.toNat (0, 0))]) done t12 t13 (IntKind.wrap .i64 (t14 + 1)) x_0 x_1 b_0 b_1
            else none
        else
          (f91_serial_Less ((t12.getD t14.toNat (0, 0)).1) b_0).bind fun r577_0 =>
          if r577_0 = true then
            (f128_serial_Max b_1 ((t12.getD t14.toNat (0, 0)).2)).bind fun r579_0 =>
            f93_sack_Board_put_L4 n out done t12 t13 (IntKind.wrap .i64 (t14 + 1)) x_0 x_1 ((t12.getD t14.toNat (0, 0)).1) r579_0
          else
            (f128_serial_Max b_1 ((t12.getD t14.toNat (0, 0)).2)).bind fun r581_0 =>
            f93_sack_Board_put_L4 n out done t12 t13 (IntKind.wrap .i64 (t14 + 1)) x_0 x_1 b_0 r581_0
      else none
    else
      some ((out, done, x_0, x_1, b_0, b_1))
def f93_sack_Board_put_L4_k (e : (List (Int × Int)) × Bool × Int × Int × Int × Int) (o : Out) : Prop := At Go.Proofs.Try.prog Go.Proofs.Try.f93 1 17 ⟨[(0, .one (.c (.ptr 0 0))), (3, .one (.c (.ptr 1 0))), (5, .one (.c (.own 2 (.pair (.int .u32) (.int .u32)) e.1))), (6, .one (.c (.d (.bool e.2.1))))], [(2, some ⟨160, 0⟩)], [(0, [.d (.int .u32 e.2.2.1), .d (.int .i64 e.2.2.2.1), .d (.sl .unit [])]), (1, [.d (.int .u32 e.2.2.2.2.1), .d (.int .u32 e.2.2.2.2.2)])], 3⟩ o
theorem f93_sack_Board_put_L4_ok (n : Nat) : ∀ (out : List (Int × Int)) (done : Bool) (t12 : List (Int × Int)) (t13 : Int) (t14 : Int) (x_0 : Int) (x_1 : Int) (b_0 : Int) (b_1 : Int) (w : (List (Int × Int)) × Bool × Int × Int × Int × Int) (h : f93_sack_Board_put_L4 n out done t12 t13 t14 x_0 x_1 b_0 b_1 = some w) (o : Out) (hk : f93_sack_Board_put_L4_k w o), At Go.Proofs.Try.prog Go.Proofs.Try.f93 1 4 ⟨[(0, .one (.c (.ptr 0 0))), (3, .one (.c (.ptr 1 0))), (5, .one (.c (.own 2 (.pair (.int .u32) (.int .u32)) out))), (6, .one (.c (.d (.bool done)))), (12, .one (.c (.d (.sl (.pair (.int .u32) (.int .u32)) t12)))), (13, .one (.c (.d (.int .i64 t13)))), (14, .one (.c (.d (.int .i64 t14))))], [(2, some ⟨160, 0⟩)], [(0, [.d (.int .u32 x_0), .d (.int .i64 x_1), .d (.sl .unit [])]), (1, [.d (.int .u32 b_0), .d (.int .u32 b_1)])], 3⟩ o := by
  induction n with
  | zero => intro out done t12 t13 t14 x_0 x_1 b_0 b_1 w h; rw [f93_sack_Board_put_L4] at h; cases h
  | succ n ih =>
    intro out done t12 t13 t14 x_0 x_1 b_0 b_1 w h o hk
    rw [f93_sack_Board_put_L4] at h
    rcases iteS h with ⟨b564_e0, h⟩ | ⟨b564_e0, h⟩
    · refine At.step hm ht ⟨[], [true], [], [0, 3, 5, 6, 12, 13, 14], [0, 1, 2]⟩ 5 ⟨[(0, .one (.c (.ptr 0 0))), (3, .one (.c (.ptr 1 0))), (5, .one (.c (.own 2 (.pair (.int .u32) (.int .u32)) out))), (6, .one (.c (.d (.bool done)))), (12, .one (.c (.d (.sl (.pair (.int .u32) (.int .u32)) t12)))), (13, .one (.c (.d (.int .i64 t13)))), (14, .one (.c (.d (.int .i64 t14))))], [(2, some ⟨160, 0⟩)], [(0, [.d (.int .u32 x_0), .d (.int .i64 x_1), .d (.sl .unit [])]), (1, [.d (.int .u32 b_0), .d (.int .u32 b_1)])], 3⟩ [(decide ((t14 : Int) < t13)) = true] (by kernel_rfl) ⟨b564_e0, trivial⟩ ?_
      obtain ⟨g565_0, h⟩ := ifS h
      refine At.step hm ht ⟨[], [], [], [0, 3, 5, 6, 8, 12, 13, 14], [0, 1, 2, 5]⟩ 9 ⟨[(0, .one (.c (.ptr 0 0))), (3, .one (.c (.ptr 1 0))), (5, .one (.c (.own 2 (.pair (.int .u32) (.int .u32)) out))), (6, .one (.c (.d (.bool done)))), (8, .one (.c (.ptr 3 0))), (12, .one (.c (.d (.sl (.pair (.int .u32) (.int .u32)) t12)))), (13, .one (.c (.d (.int .i64 t13)))), (14, .one (.c (.d (.int .i64 t14))))], [(2, some ⟨160, 0⟩)], [(0, [.d (.int .u32 x_0), .d (.int .i64 x_1), .d (.sl .unit [])]), (1, [.d (.int .u32 b_0), .d (.int .u32 b_1)]), (3, [.d (.int .u32 ((t12.getD t14.toNat (0, 0)).1)), .d (.int .u32 ((t12.getD t14.toNat (0, 0)).2))])], 4⟩ [(0 : Int) ≤ t14 ∧ t14 < (((t12).length : Nat) : Int), 0 + 2 ≤ 2] (by kernel_rfl) ⟨g565_0, (by decide), trivial⟩ ?_
      obtain ⟨r566_0, cr566_0, h⟩ := bindS h
      rcases iteS h with ⟨b566_e0, h⟩ | ⟨b566_e0, h⟩
      · refine At.step hm ht ⟨[(4, .call [] [] (f91_serial_Less_out r566_0))], [true], [], [0, 3, 5, 6, 8, 12, 13, 14], [0, 1, 2, 3]⟩ 10 ⟨[(0, .one (.c (.ptr 0 0))), (3, .one (.c (.ptr 1 0))), (5, .one (.c (.own 2 (.pair (.int .u32) (.int .u32)) out))), (6, .one (.c (.d (.bool done)))), (8, .one (.c (.ptr 3 0))), (12, .one (.c (.d (.sl (.pair (.int .u32) (.int .u32)) t12)))), (13, .one (.c (.d (.int .i64 t13)))), (14, .one (.c (.d (.int .i64 t14))))], [(2, some ⟨160, 0⟩)], [(0, [.d (.int .u32 x_0), .d (.int .i64 x_1), .d (.sl .unit [])]), (1, [.d (.int .u32 b_0), .d (.int .u32 b_1)]), (3, [.d (.int .u32 ((t12.getD t14.toNat (0, 0)).1)), .d (.int .u32 ((t12.getD t14.toNat (0, 0)).2))])], 4⟩ [FnOK Go.Proofs.Try.prog 91 (f91_serial_Less_in ((t12.getD t14.toNat (0, 0)).2) b_0) (f91_serial_Less_out r566_0), r566_0 = true] (by kernel_rfl) ⟨(f91_serial_Less_ok ((t12.getD t14.toNat (0, 0)).2) b_0 r566_0 cr566_0), b566_e0, trivial⟩ ?_
        obtain ⟨g567_0, h⟩ := ifS h
        refine At.step hm ht ⟨[], [], [], [0, 3, 5, 6, 12, 13, 14], [0, 1, 7]⟩ 16 ⟨[(0, .one (.c (.ptr 0 0))), (3, .one (.c (.ptr 1 0))), (5, .one (.c (.own 2 (.pair (.int .u32) (.int .u32)) (out ++ [(t12.getD t14.toNat (0, 0))])))), (6, .one (.c (.d (.bool done)))), (12, .one (.c (.d (.sl (.pair (.int .u32) (.int .u32)) t12)))), (13, .one (.c (.d (.int .i64 t13)))), (14, .one (.c (.d (.int .i64 t14))))], [(2, some ⟨160, 0⟩)], [(0, [.d (.int .u32 x_0), .d (.int .i64 x_1), .d (.sl .unit [])]), (1, [.d (.int .u32 b_0), .d (.int .u32 b_1)])], 3⟩ [out.length + [(t12.getD t14.toNat (0, 0))].length ≤ maxLen ∧ (out.length + [(t12.getD t14.toNat (0, 0))].length) * 8 ≤ 140737488355328] (by kernel_rfl) ⟨g567_0, trivial⟩ ?_
        refine At.step hm ht ⟨[], [], [], [0, 3, 5, 6, 12, 13, 14], [0, 1, 2]⟩ 4 ⟨[(0, .one (.c (.ptr 0 0))), (3, .one (.c (.ptr 1 0))), (5, .one (.c (.own 2 (.pair (.int .u32) (.int .u32)) (out ++ [(t12.getD t14.toNat (0, 0))])))), (6, .one (.c (.d (.bool done)))), (12, .one (.c (.d (.sl (.pair (.int .u32) (.int .u32)) t12)))), (13, .one (.c (.d (.int .i64 t13)))), (14, .one (.c (.d (.int .i64 (IntKind.wrap .i64 (t14 + 1))))))], [(2, some ⟨160, 0⟩)], [(0, [.d (.int .u32 x_0), .d (.int .i64 x_1), .d (.sl .unit [])]), (1, [.d (.int .u32 b_0), .d (.int .u32 b_1)])], 3⟩ [] (by kernel_rfl) trivial ?_
        exact ih (out ++ [(t12.getD t14.toNat (0, 0))]) done t12 t13 (IntKind.wrap .i64 (t14 + 1)) x_0 x_1 b_0 b_1 w h o hk
      · refine At.step hm ht ⟨[(4, .call [] [] (f91_serial_Less_out r566_0))], [false], [], [0, 3, 5, 6, 8, 12, 13, 14], [0, 1, 2, 3]⟩ 11 ⟨[(0, .one (.c (.ptr 0 0))), (3, .one (.c (.ptr 1 0))), (5, .one (.c (.own 2 (.pair (.int .u32) (.int .u32)) out))), (6, .one (.c (.d (.bool done)))), (8, .one (.c (.ptr 3 0))), (12, .one (.c (.d (.sl (.pair (.int .u32) (.int .u32)) t12)))), (13, .one (.c (.d (.int .i64 t13)))), (14, .one (.c (.d (.int .i64 t14))))], [(2, some ⟨160, 0⟩)], [(0, [.d (.int .u32 x_0), .d (.int .i64 x_1), .d (.sl .unit [])]), (1, [.d (.int .u32 b_0), .d (.int .u32 b_1)]), (3, [.d (.int .u32 ((t12.getD t14.toNat (0, 0)).1)), .d (.int .u32 ((t12.getD t14.toNat (0, 0)).2))])], 4⟩ [FnOK Go.Proofs.Try.prog 91 (f91_serial_Less_in ((t12.getD t14.toNat (0, 0)).2) b_0) (f91_serial_Less_out r566_0), r566_0 = false] (by kernel_rfl) ⟨(f91_serial_Less_ok ((t12.getD t14.toNat (0, 0)).2) b_0 r566_0 cr566_0), b566_e0, trivial⟩ ?_
        obtain ⟨r569_0, cr569_0, h⟩ := bindS h
        rcases iteS h with ⟨b569_e0, h⟩ | ⟨b569_e0, h⟩
        · refine At.step hm ht ⟨[(4, .call [] [] (f91_serial_Less_out r569_0))], [true], [], [0, 3, 5, 6, 8, 12, 13, 14], [0, 1, 2, 3]⟩ 12 ⟨[(0, .one (.c (.ptr 0 0))), (3, .one (.c (.ptr 1 0))), (5, .one (.c (.own 2 (.pair (.int .u32) (.int .u32)) out))), (6, .one (.c (.d (.bool done)))), (8, .one (.c (.ptr 3 0))), (12, .one (.c (.d (.sl (.pair (.int .u32) (.int .u32)) t12)))), (13, .one (.c (.d (.int .i64 t13)))), (14, .one (.c (.d (.int .i64 t14))))], [(2, some ⟨160, 0⟩)], [(0, [.d (.int .u32 x_0), .d (.int .i64 x_1), .d (.sl .unit [])]), (1, [.d (.int .u32 b_0), .d (.int .u32 b_1)]), (3, [.d (.int .u32 ((t12.getD t14.toNat (0, 0)).1)), .d (.int .u32 ((t12.getD t14.toNat (0, 0)).2))])], 4⟩ [FnOK Go.Proofs.Try.prog 91 (f91_serial_Less_in b_1 ((t12.getD t14.toNat (0, 0)).1)) (f91_serial_Less_out r569_0), r569_0 = true] (by kernel_rfl) ⟨(f91_serial_Less_ok b_1 ((t12.getD t14.toNat (0, 0)).1) r569_0 cr569_0), b569_e0, trivial⟩ ?_
          rcases iteS h with ⟨b570_e0, h⟩ | ⟨b570_e0, h⟩
          · refine At.step hm ht ⟨[], [true], [], [0, 3, 5, 8, 12, 13, 14], [0, 1, 2, 3]⟩ 13 ⟨[(0, .one (.c (.ptr 0 0))), (3, .one (.c (.ptr 1 0))), (5, .one (.c (.own 2 (.pair (.int .u32) (.int .u32)) out))), (8, .one (.c (.ptr 3 0))), (12, .one (.c (.d (.sl (.pair (.int .u32) (.int .u32)) t12)))), (13, .one (.c (.d (.int .i64 t13)))), (14, .one (.c (.d (.int .i64 t14))))], [(2, some ⟨160, 0⟩)], [(0, [.d (.int .u32 x_0), .d (.int .i64 x_1), .d (.sl .unit [])]), (1, [.d (.int .u32 b_0), .d (.int .u32 b_1)]), (3, [.d (.int .u32 ((t12.getD t14.toNat (0, 0)).1)), .d (.int .u32 ((t12.getD t14.toNat (0, 0)).2))])], 4⟩ [(!done) = true] (by kernel_rfl) ⟨b570_e0, trivial⟩ ?_
            obtain ⟨g571_0, h⟩ := ifS h
            refine At.step hm ht ⟨[], [], [], [0, 3, 5, 8, 12, 13, 14], [0, 1, 7, 3]⟩ 14 ⟨[(0, .one (.c (.ptr 0 0))), (3, .one (.c (.ptr 1 0))), (5, .one (.c (.own 2 (.pair (.int .u32) (.int .u32)) (out ++ [(b_0, b_1)])))), (8, .one (.c (.ptr 3 0))), (12, .one (.c (.d (.sl (.pair (.int .u32) (.int .u32)) t12)))), (13, .one (.c (.d (.int .i64 t13)))), (14, .one (.c (.d (.int .i64 t14))))], [(2, some ⟨160, 0⟩)], [(0, [.d (.int .u32 x_0), .d (.int .i64 x_1), .d (.sl .unit [])]), (1, [.d (.int .u32 b_0), .d (.int .u32 b_1)]), (3, [.d (.int .u32 ((t12.getD t14.toNat (0, 0)).1)), .d (.int .u32 ((t12.getD t14.toNat (0, 0)).2))])], 4⟩ [out.length + [(b_0, b_1)].length ≤ maxLen ∧ (out.length + [(b_0, b_1)].length) * 8 ≤ 140737488355328] (by kernel_rfl) ⟨g571_0, trivial⟩ ?_
            refine At.step hm ht ⟨[], [], [], [0, 3, 5, 6, 8, 12, 13, 14], [0, 1, 2, 3]⟩ 15 ⟨[(0, .one (.c (.ptr 0 0))), (3, .one (.c (.ptr 1 0))), (5, .one (.c (.own 2 (.pair (.int .u32) (.int .u32)) (out ++ [(b_0, b_1)])))), (6, .one (.c (.d (.bool true)))), (8, .one (.c (.ptr 3 0))), (12, .one (.c (.d (.sl (.pair (.int .u32) (.int .u32)) t12)))), (13, .one (.c (.d (.int .i64 t13)))), (14, .one (.c (.d (.int .i64 t14))))], [(2, some ⟨160, 0⟩)], [(0, [.d (.int .u32 x_0), .d (.int .i64 x_1), .d (.sl .unit [])]), (1, [.d (.int .u32 b_0), .d (.int .u32 b_1)]), (3, [.d (.int .u32 ((t12.getD t14.toNat (0, 0)).1)), .d (.int .u32 ((t12.getD t14.toNat (0, 0)).2))])], 4⟩ [] (by kernel_rfl) trivial ?_
            obtain ⟨g573_0, h⟩ := ifS h
            refine At.step hm ht ⟨[], [], [], [0, 3, 5, 6, 12, 13, 14], [0, 1, 7]⟩ 16 ⟨[(0, .one (.c (.ptr 0 0))), (3, .one (.c (.ptr 1 0))), (5, .one (.c (.own 2 (.pair (.int .u32) (.int .u32)) ((out ++ [(b_0, b_1)]) ++ [(t12.getD t14.toNat (0, 0))])))), (6, .one (.c (.d (.bool true)))), (12, .one (.c (.d (.sl (.pair (.int .u32) (.int .u32)) t12)))), (13, .one (.c (.d (.int .i64 t13)))), (14, .one (.c (.d (.int .i64 t14))))], [(2, some ⟨160, 0⟩)], [(0, [.d (.int .u32 x_0), .d (.int .i64 x_1), .d (.sl .unit [])]), (1, [.d (.int .u32 b_0), .d (.int .u32 b_1)])], 3⟩ [(out ++ [(b_0, b_1)]).length + [(t12.getD t14.toNat (0, 0))].length ≤ maxLen ∧ ((out ++ [(b_0, b_1)]).length + [(t12.getD t14.toNat (0, 0))].length) * 8 ≤ 140737488355328] (by kernel_rfl) ⟨g573_0, trivial⟩ ?_
            refine At.step hm ht ⟨[], [], [], [0, 3, 5, 6, 12, 13, 14], [0, 1, 2]⟩ 4 ⟨[(0, .one (.c (.ptr 0 0))), (3, .one (.c (.ptr 1 0))), (5, .one (.c (.own 2 (.pair (.int .u32) (.int .u32)) ((out ++ [(b_0, b_1)]) ++ [(t12.getD t14.toNat (0, 0))])))), (6, .one (.c (.d (.bool true)))), (12, .one (.c (.d (.sl (.pair (.int .u32) (.int .u32)) t12)))), (13, .one (.c (.d (.int .i64 t13)))), (14, .one (.c (.d (.int .i64 (IntKind.wrap .i64 (t14 + 1))))))], [(2, some ⟨160, 0⟩)], [(0, [.d (.int .u32 x_0), .d (.int .i64 x_1), .d (.sl .unit [])]), (1, [.d (.int .u32 b_0), .d (.int .u32 b_1)])], 3⟩ [] (by kernel_rfl) trivial ?_
            exact ih ((out ++ [(b_0, b_1)]) ++ [(t12.getD t14.toNat (0, 0))]) true t12 t13 (IntKind.wrap .i64 (t14 + 1)) x_0 x_1 b_0 b_1 w h o hk
          · refine At.step hm ht ⟨[], [false], [], [0, 3, 5, 6, 8, 12, 13, 14], [0, 1, 2, 3]⟩ 15 ⟨[(0, .one (.c (.ptr 0 0))), (3, .one (.c (.ptr 1 0))), (5, .one (.c (.own 2 (.pair (.int .u32) (.int .u32)) out))), (6, .one (.c (.d (.bool done)))), (8, .one (.c (.ptr 3 0))), (12, .one (.c (.d (.sl (.pair (.int .u32) (.int .u32)) t12)))), (13, .one (.c (.d (.int .i64 t13)))), (14, .one (.c (.d (.int .i64 t14))))], [(2, some ⟨160, 0⟩)], [(0, [.d (.int .u32 x_0), .d (.int .i64 x_1), .d (.sl .unit [])]), (1, [.d (.int .u32 b_0), .d (.int .u32 b_1)]), (3, [.d (.int .u32 ((t12.getD t14.toNat (0, 0)).1)), .d (.int .u32 ((t12.getD t14.toNat (0, 0)).2))])], 4⟩ [(!done) = false] (by kernel_rfl) ⟨b570_e0, trivial⟩ ?_
            obtain ⟨g575_0, h⟩ := ifS h
            refine At.step hm ht ⟨[], [], [], [0, 3, 5, 6, 12, 13, 14], [0, 1, 7]⟩ 16 ⟨[(0, .one (.c (.ptr 0 0))), (3, .one (.c (.ptr 1 0))), (5, .one (.c (.own 2 (.pair (.int .u32) (.int .u32)) (out ++ [(t12.getD t14.toNat (0, 0))])))), (6, .one (.c (.d (.bool done)))), (12, .one (.c (.d (.sl (.pair (.int .u32) (.int .u32)) t12)))), (13, .one (.c (.d (.int .i64 t13)))), (14, .one (.c (.d (.int .i64 t14))))], [(2, some ⟨160, 0⟩)], [(0, [.d (.int .u32 x_0), .d (.int .i64 x_1), .d (.sl .unit [])]), (1, [.d (.int .u32 b_0), .d (.int .u32 b_1)])], 3⟩ [out.length + [(t12.getD t14.toNat (0, 0))].length ≤ maxLen ∧ (out.length + [(t12.getD t14.toNat (0, 0))].length) * 8 ≤ 140737488355328] (by kernel_rfl) ⟨g575_0, trivial⟩ ?_
            refine At.step hm ht ⟨[], [], [], [0, 3, 5, 6, 12, 13, 14], [0, 1, 2]⟩ 4 ⟨[(0, .one (.c (.ptr 0 0))), (3, .one (.c (.ptr 1 0))), (5, .one (.c (.own 2 (.pair (.int .u32) (.int .u32)) (out ++ [(t12.getD t14.toNat (0, 0))])))), (6, .one (.c (.d (.bool done)))), (12, .one (.c (.d (.sl (.pair (.int .u32) (.int .u32)) t12)))), (13, .one (.c (.d (.int .i64 t13)))), (14, .one (.c (.d (.int .i64 (IntKind.wrap .i64 (t14 + 1))))))], [(2, some ⟨160, 0⟩)], [(0, [.d (.int .u32 x_0), .d (.int .i64 x_1), .d (.sl .unit [])]), (1, [.d (.int .u32 b_0), .d (.int .u32 b_1)])], 3⟩ [] (by kernel_rfl) trivial ?_
            exact ih (out ++ [(t12.getD t14.toNat (0, 0))]) done t12 t13 (IntKind.wrap .i64 (t14 + 1)) x_0 x_1 b_0 b_1 w h o hk
        · refine At.step hm ht ⟨[(4, .call [] [] (f91_serial_Less_out r569_0))], [false], [], [0, 3, 5, 6, 8, 12, 13, 14], [0, 1, 2, 3]⟩ 6 ⟨[(0, .one (.c (.ptr 0 0))), (3, .one (.c (.ptr 1 0))), (5, .one (.c (.own 2 (.pair (.int .u32) (.int .u32)) out))), (6, .one (.c (.d (.bool done)))), (8, .one (.c (.ptr 3 0))), (12, .one (.c (.d (.sl (.pair (.int .u32) (.int .u32)) t12)))), (13, .one (.c (.d (.int .i64 t13)))), (14, .one (.c (.d (.int .i64 t14))))], [(2, some ⟨160, 0⟩)], [(0, [.d (.int .u32 x_0), .d (.int .i64 x_1), .d (.sl .unit [])]), (1, [.d (.int .u32 b_0), .d (.int .u32 b_1)]), (3, [.d (.int .u32 ((t12.getD t14.toNat (0, 0)).1)), .d (.int .u32 ((t12.getD t14.toNat (0, 0)).2))])], 4⟩ [FnOK Go.Proofs.Try.prog 91 (f91_serial_Less_in b_1 ((t12.getD t14.toNat (0, 0)).1)) (f91_serial_Less_out r569_0), r569_0 = false] (by kernel_rfl) ⟨(f91_serial_Less_ok b_1 ((t12.getD t14.toNat (0, 0)).1) r569_0 cr569_0), b569_e0, trivial⟩ ?_
          obtain ⟨r577_0, cr577_0, h⟩ := bindS h
          rcases iteS h with ⟨b577_e0, h⟩ | ⟨b577_e0, h⟩
          · refine At.step hm ht ⟨[(4, .call [] [] (f91_serial_Less_out r577_0))], [true], [], [0, 3, 5, 6, 8, 12, 13, 14], [0, 1, 2, 3]⟩ 7 ⟨[(0, .one (.c (.ptr 0 0))), (3, .one (.c (.ptr 1 0))), (5, .one (.c (.own 2 (.pair (.int .u32) (.int .u32)) out))), (6, .one (.c (.d (.bool done)))), (8, .one (.c (.ptr 3 0))), (12, .one (.c (.d (.sl (.pair (.int .u32) (.int .u32)) t12)))), (13, .one (.c (.d (.int .i64 t13)))), (14, .one (.c (.d (.int .i64 t14))))], [(2, some ⟨160, 0⟩)], [(0, [.d (.int .u32 x_0), .d (.int .i64 x_1), .d (.sl .unit [])]), (1, [.d (.int .u32 b_0), .d (.int .u32 b_1)]), (3, [.d (.int .u32 ((t12.getD t14.toNat (0, 0)).1)), .d (.int .u32 ((t12.getD t14.toNat (0, 0)).2))])], 4⟩ [FnOK Go.Proofs.Try.prog 91 (f91_serial_Less_in ((t12.getD t14.toNat (0, 0)).1) b_0) (f91_serial_Less_out r577_0), r577_0 = true] (by kernel_rfl) ⟨(f91_serial_Less_ok ((t12.getD t14.toNat (0, 0)).1) b_0 r577_0 cr577_0), b577_e0, trivial⟩ ?_
            refine At.step hm ht ⟨[], [], [], [0, 3, 5, 6, 8, 12, 13, 14], [0, 1, 2, 3]⟩ 8 ⟨[(0, .one (.c (.ptr 0 0))), (3, .one (.c (.ptr 1 0))), (5, .one (.c (.own 2 (.pair (.int .u32) (.int .u32)) out))), (6, .one (.c (.d (.bool done)))), (8, .one (.c (.ptr 3 0))), (12, .one (.c (.d (.sl (.pair (.int .u32) (.int .u32)) t12)))), (13, .one (.c (.d (.int .i64 t13)))), (14, .one (.c (.d (.int .i64 t14))))], [(2, some ⟨160, 0⟩)], [(0, [.d (.int .u32 x_0), .d (.int .i64 x_1), .d (.sl .unit [])]), (1, [.d (.int .u32 ((t12.getD t14.toNat (0, 0)).1)), .d (.int .u32 b_1)]), (3, [.d (.int .u32 ((t12.getD t14.toNat (0, 0)).1)), .d (.int .u32 ((t12.getD t14.toNat (0, 0)).2))])], 4⟩ [0 + 1 ≤ 2] (by kernel_rfl) ⟨(by decide), trivial⟩ ?_
            obtain ⟨r579_0, cr579_0, h⟩ := bindS h
            refine At.step hm ht ⟨[(4, .call [] [] (f128_serial_Max_out r579_0))], [], [], [0, 3, 5, 6, 12, 13, 14], [0, 1, 2]⟩ 16 ⟨[(0, .one (.c (.ptr 0 0))), (3, .one (.c (.ptr 1 0))), (5, .one (.c (.own 2 (.pair (.int .u32) (.int .u32)) out))), (6, .one (.c (.d (.bool done)))), (12, .one (.c (.d (.sl (.pair (.int .u32) (.int .u32)) t12)))), (13, .one (.c (.d (.int .i64 t13)))), (14, .one (.c (.d (.int .i64 t14))))], [(2, some ⟨160, 0⟩)], [(0, [.d (.int .u32 x_0), .d (.int .i64 x_1), .d (.sl .unit [])]), (1, [.d (.int .u32 ((t12.getD t14.toNat (0, 0)).1)), .d (.int .u32 r579_0)])], 3⟩ [FnOK Go.Proofs.Try.prog 128 (f128_serial_Max_in b_1 ((t12.getD t14.toNat (0, 0)).2)) (f128_serial_Max_out r579_0), 1 + 1 ≤ 2] (by kernel_rfl) ⟨(f128_serial_Max_ok b_1 ((t12.getD t14.toNat (0, 0)).2) r579_0 cr579_0), (by decide), trivial⟩ ?_
            refine At.step hm ht ⟨[], [], [], [0, 3, 5, 6, 12, 13, 14], [0, 1, 2]⟩ 4 ⟨[(0, .one (.c (.ptr 0 0))), (3, .one (.c (.ptr 1 0))), (5, .one (.c (.own 2 (.pair (.int .u32) (.int .u32)) out))), (6, .one (.c (.d (.bool done)))), (12, .one (.c (.d (.sl (.pair (.int .u32) (.int .u32)) t12)))), (13, .one (.c (.d (.int .i64 t13)))), (14, .one (.c (.d (.int .i64 (IntKind.wrap .i64 (t14 + 1))))))], [(2, some ⟨160, 0⟩)], [(0, [.d (.int .u32 x_0), .d (.int .i64 x_1), .d (.sl .unit [])]), (1, [.d (.int .u32 ((t12.getD t14.toNat (0, 0)).1)), .d (.int .u32 r579_0)])], 3⟩ [] (by kernel_rfl) trivial ?_
            exact ih out done t12 t13 (IntKind.wrap .i64 (t14 + 1)) x_0 x_1 ((t12.getD t14.toNat (0, 0)).1) r579_0 w h o hk
          · refine At.step hm ht ⟨[(4, .call [] [] (f91_serial_Less_out r577_0))], [false], [], [0, 3, 5, 6, 8, 12, 13, 14], [0, 1, 2, 3]⟩ 8 ⟨[(0, .one (.c (.ptr 0 0))), (3, .one (.c (.ptr 1 0))), (5, .one (.c (.own 2 (.pair (.int .u32) (.int .u32)) out))), (6, .one (.c (.d (.bool done)))), (8, .one (.c (.ptr 3 0))), (12, .one (.c (.d (.sl (.pair (.int .u32) (.int .u32)) t12)))), (13, .one (.c (.d (.int .i64 t13)))), (14, .one (.c (.d (.int .i64 t14))))], [(2, some ⟨160, 0⟩)], [(0, [.d (.int .u32 x_0), .d (.int .i64 x_1), .d (.sl .unit [])]), (1, [.d (.int .u32 b_0), .d (.int .u32 b_1)]), (3, [.d (.int .u32 ((t12.getD t14.toNat (0, 0)).1)), .d (.int .u32 ((t12.getD t14.toNat (0, 0)).2))])], 4⟩ [FnOK Go.Proofs.Try.prog 91 (f91_serial_Less_in ((t12.getD t14.toNat (0, 0)).1) b_0) (f91_serial_Less_out r577_0), r577_0 = false] (by kernel_rfl) ⟨(f91_serial_Less_ok ((t12.getD t14.toNat (0, 0)).1) b_0 r577_0 cr577_0), b577_e0, trivial⟩ ?_
            obtain ⟨r581_0, cr581_0, h⟩ := bindS h
            refine At.step hm ht ⟨[(4, .call [] [] (f128_serial_Max_out r581_0))], [], [], [0, 3, 5, 6, 12, 13, 14], [0, 1, 2]⟩ 16 ⟨[(0, .one (.c (.ptr 0 0))), (3, .one (.c (.ptr 1 0))), (5, .one (.c (.own 2 (.pair (.int .u32) (.int .u32)) out))), (6, .one (.c (.d (.bool done)))), (12, .one (.c (.d (.sl (.pair (.int .u32) (.int .u32)) t12)))), (13, .one (.c (.d (.int .i64 t13)))), (14, .one (.c (.d (.int .i64 t14))))], [(2, some ⟨160, 0⟩)], [(0, [.d (.int .u32 x_0), .d (.int .i64 x_1), .d (.sl .unit [])]), (1, [.d (.int .u32 b_0), .d (.int .u32 r581_0)])], 3⟩ [FnOK Go.Proofs.Try.prog 128 (f128_serial_Max_in b_1 ((t12.getD t14.toNat (0, 0)).2)) (f128_serial_Max_out r581_0), 1 + 1 ≤ 2] (by kernel_rfl) ⟨(f128_serial_Max_ok b_1 ((t12.getD t14.toNat (0, 0)).2) r581_0 cr581_0), (by decide), trivial⟩ ?_
            refine At.step hm ht ⟨[], [], [], [0, 3, 5, 6, 12, 13, 14], [0, 1, 2]⟩ 4 ⟨[(0, .one (.c (.ptr 0 0))), (3, .one (.c (.ptr 1 0))), (5, .one (.c (.own 2 (.pair (.int .u32) (.int .u32)) out))), (6, .one (.c (.d (.bool done)))), (12, .one (.c (.d (.sl (.pair (.int .u32) (.int .u32)) t12)))), (13, .one (.c (.d (.int .i64 t13)))), (14, .one (.c (.d (.int .i64 (IntKind.wrap .i64 (t14 + 1))))))], [(2, some ⟨160, 0⟩)], [(0, [.d (.int .u32 x_0), .d (.int .i64 x_1), .d (.sl .unit [])]), (1, [.d (.int .u32 b_0), .d (.int .u32 r581_0)])], 3⟩ [] (by kernel_rfl) trivial ?_
            exact ih out done t12 t13 (IntKind.wrap .i64 (t14 + 1)) x_0 x_1 b_0 r581_0 w h o hk
    · refine At.step hm ht ⟨[], [false], [], [0, 3, 5, 6], [0, 1, 2]⟩ 17 ⟨[(0, .one (.c (.ptr 0 0))), (3, .one (.c (.ptr 1 0))), (5, .one (.c (.own 2 (.pair (.int .u32) (.int .u32)) out))), (6, .one (.c (.d (.bool done))))], [(2, some ⟨160, 0⟩)], [(0, [.d (.int .u32 x_0), .d (.int .i64 x_1), .d (.sl .unit [])]), (1, [.d (.int .u32 b_0), .d (.int .u32 b_1)])], 3⟩ [(decide ((t14 : Int) < t13)) = false] (by kernel_rfl) ⟨b564_e0, trivial⟩ ?_
      have h := Option.some.inj h
      subst h
      exact hk
def f93_sack_Board_put (n : Nat) (b_0 : Int) (b_1 : Int) (x_0 : Int) (x_1 : Int) : Option (Bool × Int × Int × List (Int × Int)) :=
  (f93_sack_Board_put_L4 n [] false [] ((([] : List Unit).length : Nat) : Int) 0 x_0 x_1 b_0 b_1).bind fun w583 =>
  if (!w583.2.1) = true then
    if w583.1.length + [w583.2.2.2.2].length ≤ maxLen ∧ (w583.1.length + [w583.2.2.2.2].length) * 8 ≤ 140737488355328 then
    if (0 : Int) ≤ 0 ∧ 0 < ((((w583.1 ++ [w583.2.2.2.2])).length : Nat) : Int) then
    if (((((w583.1 ++ [w583.2.2.2.2]).getD 0 (0, 0)).1) : Int) == w583.2.2.1) = true then
      if (0 : Int) ≤ 0 ∧ 0 < ((((w583.1 ++ [w583.2.2.2.2])).length : Nat) : Int) then
      if cutOk (w583.1 ++ [w583.2.2.2.2]).length (some 1) none none then
      if (decide (((((((w583.1 ++ [w583.2.2.2.2]).take (w583.1 ++ [w583.2.2.2.2]).length).drop 1).length : Nat) : Int) : Int) > w583.2.2.2.1)) = true then
        some (false, ((w583.1 ++ [w583.2.2.2.2]).getD 0 (0, 0)).2, w583.2.2.2.1, [])
      else
        (f94_sack_Block (((w583.1 ++ [w583.2.2.2.2]).take (w583.1 ++ [w583.2.2.2.2]).length).drop 1)).bind fun r592_0 =>
        some (true, ((w583.1 ++ [w583.2.2.2.2]).getD 0 (0, 0)).2, w583.2.2.2.1, r592_0)
      else none
      else none
    else
      if (decide (((((w583.1 ++ [w583.2.2.2.2]).length : Nat) : Int) : Int) > w583.2.2.2.1)) = true then
        some (false, w583.2.2.1, w583.2.2.2.1, [])
      else
        (f94_sack_Block (w583.1 ++ [w583.2.2.2.2])).bind fun r596_0 =>
        some (true, w583.2.2.1, w583.2.2.2.1, r596_0)
    else none
    else none
  else
    if (0 : Int) ≤ 0 ∧ 0 < (((w583.1).length : Nat) : Int) then
    if ((((w583.1.getD 0 (0, 0)).1) : Int) == w583.2.2.1) = true then
      if (0 : Int) ≤ 0 ∧ 0 < (((w583.1).length : Nat) : Int) then
      if cutOk w583.1.length (some 1) none none then
      if (decide ((((((w583.1.take w583.1.length).drop 1).length : Nat) : Int) : Int) > w583.2.2.2.1)) = true then
        some (false, (w583.1.getD 0 (0, 0)).2, w583.2.2.2.1, [])
      else
        (f94_sack_Block ((w583.1.take w583.1.length).drop 1)).bind fun r603_0 =>
        some (true, (w583.1.getD 0 (0, 0)).2, w583.2.2.2.1, r603_0)
      else none
      else none
    else
      if (decide ((((w583.1.length : Nat) : Int) : Int) > w583.2.2.2.1)) = true then
        some (false, w583.2.2.1, w583.2.2.2.1, [])
      else
        (f94_sack_Block w583.1).bind fun r607_0 =>
        some (true, w583.2.2.1, w583.2.2.2.1, r607_0)
    else none
theorem f93_sack_Board_put_ok (n : Nat) (b_0 : Int) (b_1 : Int) (x_0 : Int) (x_1 : Int) (r : Bool × Int × Int × List (Int × Int)) (h : f93_sack_Board_put n b_0 b_1 x_0 x_1 = some r) : FnOK Go.Proofs.Try.prog 93 (f93_sack_Board_put_in b_0 b_1 x_0 x_1) (f93_sack_Board_put_out r) := by
  unfold f93_sack_Board_put at h
  refine At.fn (r := 0) Go.Proofs.Try.func93 rfl (by kernel_rfl) rfl rfl (by kernel_rfl) ?_
  show At Go.Proofs.Try.prog Go.Proofs.Try.f93 1 0 ⟨[(0, .one (.c (.ptr 0 0))), (1, .one (.agg [.d (.int .u32 b_0), .d (.int .u32 b_1)]))], [], [(0, [.d (.int .u32 x_0), .d (.int .i64 x_1), .d (.sl .unit [])])], 1⟩ _
  refine At.step hm ht ⟨[], [], [], [0, 3], [0, 1]⟩ 1 ⟨[(0, .one (.c (.ptr 0 0))), (3, .one (.c (.ptr 1 0)))], [], [(0, [.d (.int .u32 x_0), .d (.int .i64 x_1), .d (.sl .unit [])]), (1, [.d (.int .u32 b_0), .d (.int .u32 b_1)])], 2⟩ [] (by kernel_rfl) trivial ?_
  refine At.step hm ht ⟨[], [], [], [0, 3, 5], [0, 1]⟩ 2 ⟨[(0, .one (.c (.ptr 0 0))), (3, .one (.c (.ptr 1 0))), (5, .one (.c (.d (.sl .unit []))))], [], [(0, [.d (.int .u32 x_0), .d (.int .i64 x_1), .d (.sl .unit [])]), (1, [.d (.int .u32 b_0), .d (.int .u32 b_1)])], 2⟩ [] (by kernel_rfl) trivial ?_
  refine At.step hm ht ⟨[], [], [], [0, 3, 5, 6], [0, 1]⟩ 3 ⟨[(0, .one (.c (.ptr 0 0))), (3, .one (.c (.ptr 1 0))), (5, .one (.c (.d (.sl .unit [])))), (6, .one (.c (.d (.bool false))))], [], [(0, [.d (.int .u32 x_0), .d (.int .i64 x_1), .d (.sl .unit [])]), (1, [.d (.int .u32 b_0), .d (.int .u32 b_1)])], 2⟩ [] (by kernel_rfl) trivial ?_
  refine At.step hm ht ⟨[], [], [.nil false 5 0 (.pair (.int .u32) (.int .u32)) (some 160), .nil false 12 0 (.pair (.int .u32) (.int .u32)) none], [0, 3, 5, 6, 12, 13, 14], [0, 1, 8]⟩ 4 ⟨[(0, .one (.c (.ptr 0 0))), (3, .one (.c (.ptr 1 0))), (5, .one (.c (.own 2 (.pair (.int .u32) (.int .u32)) []))), (6, .one (.c (.d (.bool false)))), (12, .one (.c (.d (.sl (.pair (.int .u32) (.int .u32)) [])))), (13, .one (.c (.d (.int .i64 ((([] : List Unit).length : Nat) : Int))))), (14, .one (.c (.d (.int .i64 0))))], [(2, some ⟨160, 0⟩)], [(0, [.d (.int .u32 x_0), .d (.int .i64 x_1), .d (.sl .unit [])]), (1, [.d (.int .u32 b_0), .d (.int .u32 b_1)])], 3⟩ [] (by kernel_rfl) trivial ?_
  obtain ⟨w583, cw583, h⟩ := bindS h
  refine f93_sack_Board_put_L4_ok n [] false [] ((([] : List Unit).length : Nat) : Int) 0 x_0 x_1 b_0 b_1 w583 cw583 _ ?_
  show At Go.Proofs.Try.prog Go.Proofs.Try.f93 1 17 ⟨[(0, .one (.c (.ptr 0 0))), (3, .one (.c (.ptr 1 0))), (5, .one (.c (.own 2 (.pair (.int .u32) (.int .u32)) w583.1))), (6, .one (.c (.d (.bool w583.2.1))))], [(2, some ⟨160, 0⟩)], [(0, [.d (.int .u32 w583.2.2.1), .d (.int .i64 w583.2.2.2.1), .d (.sl .unit [])]), (1, [.d (.int .u32 w583.2.2.2.2.1), .d (.int .u32 w583.2.2.2.2.2)])], 3⟩ _
  rcases iteS h with ⟨b585_e0, h⟩ | ⟨b585_e0, h⟩
  · refine At.step hm ht ⟨[], [true], [], [0, 3, 5], [0, 1, 2]⟩ 18 ⟨[(0, .one (.c (.ptr 0 0))), (3, .one (.c (.ptr 1 0))), (5, .one (.c (.own 2 (.pair (.int .u32) (.int .u32)) w583.1)))], [(2, some ⟨160, 0⟩)], [(0, [.d (.int .u32 w583.2.2.1), .d (.int .i64 w583.2.2.2.1), .d (.sl .unit [])]), (1, [.d (.int .u32 w583.2.2.2.2.1), .d (.int .u32 w583.2.2.2.2.2)])], 3⟩ [(!w583.2.1) = true] (by kernel_rfl) ⟨b585_e0, trivial⟩ ?_
    obtain ⟨g586_0, h⟩ := ifS h
    refine At.step hm ht ⟨[], [], [], [0, 5], [0, 6]⟩ 19 ⟨[(0, .one (.c (.ptr 0 0))), (5, .one (.c (.own 1 (.pair (.int .u32) (.int .u32)) (w583.1 ++ [w583.2.2.2.2]))))], [(1, some ⟨160, 0⟩)], [(0, [.d (.int .u32 w583.2.2.1), .d (.int .i64 w583.2.2.2.1), .d (.sl .unit [])])], 2⟩ [w583.1.length + [w583.2.2.2.2].length ≤ maxLen ∧ (w583.1.length + [w583.2.2.2.2].length) * 8 ≤ 140737488355328] (by kernel_rfl) ⟨g586_0, trivial⟩ ?_
    obtain ⟨g587_0, h⟩ := ifS h
    rcases iteS h with ⟨b587_e0, h⟩ | ⟨b587_e0, h⟩
    · refine At.step hm ht ⟨[], [true], [], [0, 5], [0, 1]⟩ 20 ⟨[(0, .one (.c (.ptr 0 0))), (5, .one (.c (.own 1 (.pair (.int .u32) (.int .u32)) (w583.1 ++ [w583.2.2.2.2]))))], [(1, some ⟨160, 0⟩)], [(0, [.d (.int .u32 w583.2.2.1), .d (.int .i64 w583.2.2.2.1), .d (.sl .unit [])])], 2⟩ [(0 : Int) ≤ 0 ∧ 0 < ((((w583.1 ++ [w583.2.2.2.2])).length : Nat) : Int), (((((w583.1 ++ [w583.2.2.2.2]).getD 0 (0, 0)).1) : Int) == w583.2.2.1) = true] (by kernel_rfl) ⟨g587_0, b587_e0, trivial⟩ ?_
      obtain ⟨g588_0, h⟩ := ifS h
      refine At.step hm ht ⟨[], [], [], [0, 5], [0, 1]⟩ 21 ⟨[(0, .one (.c (.ptr 0 0))), (5, .one (.c (.own 1 (.pair (.int .u32) (.int .u32)) (w583.1 ++ [w583.2.2.2.2]))))], [(1, some ⟨160, 0⟩)], [(0, [.d (.int .u32 (((w583.1 ++ [w583.2.2.2.2]).getD 0 (0, 0)).2)), .d (.int .i64 w583.2.2.2.1), .d (.sl .unit [])])], 2⟩ [(0 : Int) ≤ 0 ∧ 0 < ((((w583.1 ++ [w583.2.2.2.2])).length : Nat) : Int), 0 + 1 ≤ 3] (by kernel_rfl) ⟨g588_0, (by decide), trivial⟩ ?_
      obtain ⟨g589_0, h⟩ := ifS h
      refine At.step hm ht ⟨[], [], [], [0, 5], [0]⟩ 22 ⟨[(0, .one (.c (.ptr 0 0))), (5, .one (.c (.d (.sl (.pair (.int .u32) (.int .u32)) (((w583.1 ++ [w583.2.2.2.2]).take (w583.1 ++ [w583.2.2.2.2]).length).drop 1)))))], [], [(0, [.d (.int .u32 (((w583.1 ++ [w583.2.2.2.2]).getD 0 (0, 0)).2)), .d (.int .i64 w583.2.2.2.1), .d (.sl .unit [])])], 1⟩ [cutOk (w583.1 ++ [w583.2.2.2.2]).length (some 1) none none] (by kernel_rfl) ⟨g589_0, trivial⟩ ?_
      rcases iteS h with ⟨b590_e0, h⟩ | ⟨b590_e0, h⟩
      · refine At.step hm ht ⟨[], [true], [], [], [0]⟩ 23 ⟨[], [], [(0, [.d (.int .u32 (((w583.1 ++ [w583.2.2.2.2]).getD 0 (0, 0)).2)), .d (.int .i64 w583.2.2.2.1), .d (.sl .unit [])])], 1⟩ [(decide (((((((w583.1 ++ [w583.2.2.2.2]).take (w583.1 ++ [w583.2.2.2.2]).length).drop 1).length : Nat) : Int) : Int) > w583.2.2.2.1)) = true] (by kernel_rfl) ⟨b590_e0, trivial⟩ ?_
        have h := Option.some.inj h
        subst h
        exact At.fin hm ht ⟨[], [], [.nil true 0 2 (.pair (.int .u32) (.int .u32)) none], [4], [0]⟩ [] (by kernel_rfl) trivial
      · refine At.step hm ht ⟨[], [false], [], [0, 5], [0]⟩ 24 ⟨[(0, .one (.c (.ptr 0 0))), (5, .one (.c (.d (.sl (.pair (.int .u32) (.int .u32)) (((w583.1 ++ [w583.2.2.2.2]).take (w583.1 ++ [w583.2.2.2.2]).length).drop 1)))))], [], [(0, [.d (.int .u32 (((w583.1 ++ [w583.2.2.2.2]).getD 0 (0, 0)).2)), .d (.int .i64 w583.2.2.2.1), .d (.sl .unit [])])], 1⟩ [(decide (((((((w583.1 ++ [w583.2.2.2.2]).take (w583.1 ++ [w583.2.2.2.2]).length).drop 1).length : Nat) : Int) : Int) > w583.2.2.2.1)) = false] (by kernel_rfl) ⟨b590_e0, trivial⟩ ?_
        obtain ⟨r592_0, cr592_0, h⟩ := bindS h
        refine At.step hm ht ⟨[(2, .call [] [] (f94_sack_Block_out r592_0))], [], [], [], [0]⟩ 25 ⟨[], [], [(0, [.d (.int .u32 (((w583.1 ++ [w583.2.2.2.2]).getD 0 (0, 0)).2)), .d (.int .i64 w583.2.2.2.1), .d (.sl (.pair (.int .u32) (.int .u32)) r592_0)])], 1⟩ [FnOK Go.Proofs.Try.prog 94 (f94_sack_Block_in (((w583.1 ++ [w583.2.2.2.2]).take (w583.1 ++ [w583.2.2.2.2]).length).drop 1)) (f94_sack_Block_out r592_0), 2 + 1 ≤ 3] (by kernel_rfl) ⟨(f94_sack_Block_ok (((w583.1 ++ [w583.2.2.2.2]).take (w583.1 ++ [w583.2.2.2.2]).length).drop 1) r592_0 cr592_0), (by decide), trivial⟩ ?_
        have h := Option.some.inj h
        subst h
        exact At.fin hm ht ⟨[], [], [], [4], [0]⟩ [] (by kernel_rfl) trivial
    · refine At.step hm ht ⟨[], [false], [], [0, 5], [0, 1]⟩ 22 ⟨[(0, .one (.c (.ptr 0 0))), (5, .one (.c (.own 1 (.pair (.int .u32) (.int .u32)) (w583.1 ++ [w583.2.2.2.2]))))], [(1, some ⟨160, 0⟩)], [(0, [.d (.int .u32 w583.2.2.1), .d (.int .i64 w583.2.2.2.1), .d (.sl .unit [])])], 2⟩ [(0 : Int) ≤ 0 ∧ 0 < ((((w583.1 ++ [w583.2.2.2.2])).length : Nat) : Int), (((((w583.1 ++ [w583.2.2.2.2]).getD 0 (0, 0)).1) : Int) == w583.2.2.1) = false] (by kernel_rfl) ⟨g587_0, b587_e0, trivial⟩ ?_
      rcases iteS h with ⟨b594_e0, h⟩ | ⟨b594_e0, h⟩
      · refine At.step hm ht ⟨[], [true], [], [], [0]⟩ 23 ⟨[], [], [(0, [.d (.int .u32 w583.2.2.1), .d (.int .i64 w583.2.2.2.1), .d (.sl .unit [])])], 1⟩ [(decide (((((w583.1 ++ [w583.2.2.2.2]).length : Nat) : Int) : Int) > w583.2.2.2.1)) = true] (by kernel_rfl) ⟨b594_e0, trivial⟩ ?_
        have h := Option.some.inj h
        subst h
        exact At.fin hm ht ⟨[], [], [.nil true 0 2 (.pair (.int .u32) (.int .u32)) none], [4], [0]⟩ [] (by kernel_rfl) trivial
      · refine At.step hm ht ⟨[], [false], [], [0, 5], [0, 1]⟩ 24 ⟨[(0, .one (.c (.ptr 0 0))), (5, .one (.c (.own 1 (.pair (.int .u32) (.int .u32)) (w583.1 ++ [w583.2.2.2.2]))))], [(1, some ⟨160, 0⟩)], [(0, [.d (.int .u32 w583.2.2.1), .d (.int .i64 w583.2.2.2.1), .d (.sl .unit [])])], 2⟩ [(decide (((((w583.1 ++ [w583.2.2.2.2]).length : Nat) : Int) : Int) > w583.2.2.2.1)) = false] (by kernel_rfl) ⟨b594_e0, trivial⟩ ?_
        obtain ⟨r596_0, cr596_0, h⟩ := bindS h
        refine At.step hm ht ⟨[(2, .call [] [] (f94_sack_Block_out r596_0))], [], [], [], [0]⟩ 25 ⟨[], [], [(0, [.d (.int .u32 w583.2.2.1), .d (.int .i64 w583.2.2.2.1), .d (.sl (.pair (.int .u32) (.int .u32)) r596_0)])], 1⟩ [FnOK Go.Proofs.Try.prog 94 (f94_sack_Block_in (w583.1 ++ [w583.2.2.2.2])) (f94_sack_Block_out r596_0), 2 + 1 ≤ 3] (by kernel_rfl) ⟨(f94_sack_Block_ok (w583.1 ++ [w583.2.2.2.2]) r596_0 cr596_0), (by decide), trivial⟩ ?_
        have h := Option.some.inj h
        subst h
        exact At.fin hm ht ⟨[], [], [], [4], [0]⟩ [] (by kernel_rfl) trivial
  · refine At.step hm ht ⟨[], [false], [], [0, 5], [0, 2]⟩ 19 ⟨[(0, .one (.c (.ptr 0 0))), (5, .one (.c (.own 1 (.pair (.int .u32) (.int .u32)) w583.1)))], [(1, some ⟨160, 0⟩)], [(0, [.d (.int .u32 w583.2.2.1), .d (.int .i64 w583.2.2.2.1), .d (.sl .unit [])])], 2⟩ [(!w583.2.1) = false] (by kernel_rfl) ⟨b585_e0, trivial⟩ ?_
    obtain ⟨g598_0, h⟩ := ifS h
    rcases iteS h with ⟨b598_e0, h⟩ | ⟨b598_e0, h⟩
    · refine At.step hm ht ⟨[], [true], [], [0, 5], [0, 1]⟩ 20 ⟨[(0, .one (.c (.ptr 0 0))), (5, .one (.c (.own 1 (.pair (.int .u32) (.int .u32)) w583.1)))], [(1, some ⟨160, 0⟩)], [(0, [.d (.int .u32 w583.2.2.1), .d (.int .i64 w583.2.2.2.1), .d (.sl .unit [])])], 2⟩ [(0 : Int) ≤ 0 ∧ 0 < (((w583.1).length : Nat) : Int), ((((w583.1.getD 0 (0, 0)).1) : Int) == w583.2.2.1) = true] (by kernel_rfl) ⟨g598_0, b598_e0, trivial⟩ ?_
      obtain ⟨g599_0, h⟩ := ifS h
      refine At.step hm ht ⟨[], [], [], [0, 5], [0, 1]⟩ 21 ⟨[(0, .one (.c (.ptr 0 0))), (5, .one (.c (.own 1 (.pair (.int .u32) (.int .u32)) w583.1)))], [(1, some ⟨160, 0⟩)], [(0, [.d (.int .u32 ((w583.1.getD 0 (0, 0)).2)), .d (.int .i64 w583.2.2.2.1), .d (.sl .unit [])])], 2⟩ [(0 : Int) ≤ 0 ∧ 0 < (((w583.1).length : Nat) : Int), 0 + 1 ≤ 3] (by kernel_rfl) ⟨g599_0, (by decide), trivial⟩ ?_
      obtain ⟨g600_0, h⟩ := ifS h
      refine At.step hm ht ⟨[], [], [], [0, 5], [0]⟩ 22 ⟨[(0, .one (.c (.ptr 0 0))), (5, .one (.c (.d (.sl (.pair (.int .u32) (.int .u32)) ((w583.1.take w583.1.length).drop 1)))))], [], [(0, [.d (.int .u32 ((w583.1.getD 0 (0, 0)).2)), .d (.int .i64 w583.2.2.2.1), .d (.sl .unit [])])], 1⟩ [cutOk w583.1.length (some 1) none none] (by kernel_rfl) ⟨g600_0, trivial⟩ ?_
      rcases iteS h with ⟨b601_e0, h⟩ | ⟨b601_e0, h⟩
      · refine At.step hm ht ⟨[], [true], [], [], [0]⟩ 23 ⟨[], [], [(0, [.d (.int .u32 ((w583.1.getD 0 (0, 0)).2)), .d (.int .i64 w583.2.2.2.1), .d (.sl .unit [])])], 1⟩ [(decide ((((((w583.1.take w583.1.length).drop 1).length : Nat) : Int) : Int) > w583.2.2.2.1)) = true] (by kernel_rfl) ⟨b601_e0, trivial⟩ ?_
        have h := Option.some.inj h
        subst h
        exact At.fin hm ht ⟨[], [], [.nil true 0 2 (.pair (.int .u32) (.int .u32)) none], [4], [0]⟩ [] (by kernel_rfl) trivial
      · refine At.step hm ht ⟨[], [false], [], [0, 5], [0]⟩ 24 ⟨[(0, .one (.c (.ptr 0 0))), (5, .one (.c (.d (.sl (.pair (.int .u32) (.int .u32)) ((w583.1.take w583.1.length).drop 1)))))], [], [(0, [.d (.int .u32 ((w583.1.getD 0 (0, 0)).2)), .d (.int .i64 w583.2.2.2.1), .d (.sl .unit [])])], 1⟩ [(decide ((((((w583.1.take w583.1.length).drop 1).length : Nat) : Int) : Int) > w583.2.2.2.1)) = false] (by kernel_rfl) ⟨b601_e0, trivial⟩ ?_
        obtain ⟨r603_0, cr603_0, h⟩ := bindS h
        refine At.step hm ht ⟨[(2, .call [] [] (f94_sack_Block_out r603_0))], [], [], [], [0]⟩ 25 ⟨[], [], [(0, [.d (.int .u32 ((w583.1.getD 0 (0, 0)).2)), .d (.int .i64 w583.2.2.2.1), .d (.sl (.pair (.int .u32) (.int .u32)) r603_0)])], 1⟩ [FnOK Go.Proofs.Try.prog 94 (f94_sack_Block_in ((w583.1.take w583.1.length).drop 1)) (f94_sack_Block_out r603_0), 2 + 1 ≤ 3] (by kernel_rfl) ⟨(f94_sack_Block_ok ((w583.1.take w583.1.length).drop 1) r603_0 cr603_0), (by decide), trivial⟩ ?_
        have h := Option.some.inj h
        subst h
        exact At.fin hm ht ⟨[], [], [], [4], [0]⟩ [] (by kernel_rfl) trivial
    · refine At.step hm ht ⟨[], [false], [], [0, 5], [0, 1]⟩ 22 ⟨[(0, .one (.c (.ptr 0 0))), (5, .one (.c (.own 1 (.pair (.int .u32) (.int .u32)) w583.1)))], [(1, some ⟨160, 0⟩)], [(0, [.d (.int .u32 w583.2.2.1), .d (.int .i64 w583.2.2.2.1), .d (.sl .unit [])])], 2⟩ [(0 : Int) ≤ 0 ∧ 0 < (((w583.1).length : Nat) : Int), ((((w583.1.getD 0 (0, 0)).1) : Int) == w583.2.2.1) = false] (by kernel_rfl) ⟨g598_0, b598_e0, trivial⟩ ?_
      rcases iteS h with ⟨b605_e0, h⟩ | ⟨b605_e0, h⟩
      · refine At.step hm ht ⟨[], [true], [], [], [0]⟩ 23 ⟨[], [], [(0, [.d (.int .u32 w583.2.2.1), .d (.int .i64 w583.2.2.2.1), .d (.sl .unit [])])], 1⟩ [(decide ((((w583.1.length : Nat) : Int) : Int) > w583.2.2.2.1)) = true] (by kernel_rfl) ⟨b605_e0, trivial⟩ ?_
        have h := Option.some.inj h
        subst h
        exact At.fin hm ht ⟨[], [], [.nil true 0 2 (.pair (.int .u32) (.int .u32)) none], [4], [0]⟩ [] (by kernel_rfl) trivial
      · refine At.step hm ht ⟨[], [false], [], [0, 5], [0, 1]⟩ 24 ⟨[(0, .one (.c (.ptr 0 0))), (5, .one (.c (.own 1 (.pair (.int .u32) (.int .u32)) w583.1)))], [(1, some ⟨160, 0⟩)], [(0, [.d (.int .u32 w583.2.2.1), .d (.int .i64 w583.2.2.2.1), .d (.sl .unit [])])], 2⟩ [(decide ((((w583.1.length : Nat) : Int) : Int) > w583.2.2.2.1)) = false] (by kernel_rfl) ⟨b605_e0, trivial⟩ ?_
        obtain ⟨r607_0, cr607_0, h⟩ := bindS h
        refine At.step hm ht ⟨[(2, .call [] [] (f94_sack_Block_out r607_0))], [], [], [], [0]⟩ 25 ⟨[], [], [(0, [.d (.int .u32 w583.2.2.1), .d (.int .i64 w583.2.2.2.1), .d (.sl (.pair (.int .u32) (.int .u32)) r607_0)])], 1⟩ [FnOK Go.Proofs.Try.prog 94 (f94_sack_Block_in w583.1) (f94_sack_Block_out r607_0), 2 + 1 ≤ 3] (by kernel_rfl) ⟨(f94_sack_Block_ok w583.1 r607_0 cr607_0), (by decide), trivial⟩ ?_
        have h := Option.some.inj h
        subst h
        exact At.fin hm ht ⟨[], [], [], [4], [0]⟩ [] (by kernel_rfl) trivial
/-! (*brougham/sack.Board).Came -/
def f33_sack_Board_Came_in (from_ : Int) (many : Int) (x_0 : Int) (x_1 : Int) : Inn := ⟨[.c (.ptr 0 0), .c (.d (.int .u32 from_)), .c (.d (.int .i64 many))], [], [(0, [.d (.int .u32 x_0), .d (.int .i64 x_1), .d (.sl .unit [])])], 1⟩
def f33_sack_Board_Came_out (r : Bool × Int × Int × List (Int × Int)) : Out := ⟨.one (.c (.d (.bool r.1))), [], [(0, [.d (.int .u32 r.2.1), .d (.int .i64 r.2.2.1), .d (.sl (.pair (.int .u32) (.int .u32)) r.2.2.2)])], 1⟩
def f33_sack_Board_Came (n : Nat) (from_ : Int) (many : Int) (x_0 : Int) (x_1 : Int) : Option (Bool × Int × Int × List (Int × Int)) :=
  if (decide ((many : Int) < 1)) = true then
    some (((many : Int) == 0), x_0, x_1, [])
  else
    if (decide ((many : Int) > 1024)) = true then
      some (((many : Int) == 0), x_0, x_1, [])
    else
      (f89_serial_Diff (IntKind.wrap .u32 (from_ + (IntKind.wrap .u32 many))) x_0).bind fun r614_0 =>
      if (decide ((r614_0 : Int) ≤ 0)) = true then
        (f90_serial_Near from_ x_0 1048576).bind fun r615_0 =>
        some (r615_0, x_0, x_1, [])
      else
        (f91_serial_Less from_ x_0).bind fun r616_0 =>
        if r616_0 = true then
          (f92_sack_Board_near x_0 x_0 x_1).bind fun r618_0 =>
          if (!r618_0.1) = true then
            some (false, r618_0.2.1, r618_0.2.2, [])
          else
            (f92_sack_Board_near (IntKind.wrap .u32 (from_ + (IntKind.wrap .u32 many))) r618_0.2.1 r618_0.2.2).bind fun r618_1 =>
            if (!r618_1.1) = true then
              some (false, r618_1.2.1, r618_1.2.2, [])
            else
              (f93_sack_Board_put n x_0 (IntKind.wrap .u32 (from_ + (IntKind.wrap .u32 many))) r618_1.2.1 r618_1.2.2).bind fun r621_0 =>
              some (r621_0.1, r621_0.2.1, r621_0.2.2.1, r621_0.2.2.2)
        else
          (f92_sack_Board_near from_ x_0 x_1).bind fun r622_0 =>
          if (!r622_0.1) = true then
            some (false, r622_0.2.1, r622_0.2.2, [])
          else
            (f92_sack_Board_near (IntKind.wrap .u32 (from_ + (IntKind.wrap .u32 many))) r622_0.2.1 r622_0.2.2).bind fun r622_1 =>
            if (!r622_1.1) = true then
              some (false, r622_1.2.1, r622_1.2.2, [])
            else
              (f93_sack_Board_put n from_ (IntKind.wrap .u32 (from_ + (IntKind.wrap .u32 many))) r622_1.2.1 r622_1.2.2).bind fun r625_0 =>
              some (r625_0.1, r625_0.2.1, r625_0.2.2.1, r625_0.2.2.2)
theorem f33_sack_Board_Came_ok (n : Nat) (from_ : Int) (many : Int) (x_0 : Int) (x_1 : Int) (r : Bool × Int × Int × List (Int × Int)) (h : f33_sack_Board_Came n from_ many x_0 x_1 = some r) : FnOK Go.Proofs.Try.prog 33 (f33_sack_Board_Came_in from_ many x_0 x_1) (f33_sack_Board_Came_out r) := by
  unfold f33_sack_Board_Came at h
  refine At.fn (r := 0) Go.Proofs.Try.func33 rfl (by kernel_rfl) rfl rfl (by kernel_rfl) ?_
  show At Go.Proofs.Try.prog Go.Proofs.Try.f33 1 0 ⟨[(0, .one (.c (.ptr 0 0))), (1, .one (.c (.d (.int .u32 from_)))), (2, .one (.c (.d (.int .i64 many))))], [], [(0, [.d (.int .u32 x_0), .d (.int .i64 x_1), .d (.sl .unit [])])], 1⟩ _
  refine At.step hm ht ⟨[], [], [], [0, 1, 2], [0]⟩ 1 ⟨[(0, .one (.c (.ptr 0 0))), (1, .one (.c (.d (.int .u32 from_)))), (2, .one (.c (.d (.int .i64 many))))], [], [(0, [.d (.int .u32 x_0), .d (.int .i64 x_1), .d (.sl .unit [])])], 1⟩ [] (by kernel_rfl) trivial ?_
  rcases iteS h with ⟨b610_2, h⟩ | ⟨b610_2, h⟩
  · refine At.step hm ht ⟨[(2, .b true)], [true], [], [2], [0]⟩ 2 ⟨[(2, .one (.c (.d (.int .i64 many))))], [], [(0, [.d (.int .u32 x_0), .d (.int .i64 x_1), .d (.sl .unit [])])], 1⟩ [(decide ((many : Int) < 1)) = true, true = true] (by kernel_rfl) ⟨b610_2, rfl, trivial⟩ ?_
    have h := Option.some.inj h
    subst h
    exact At.fin hm ht ⟨[], [], [.nil true 0 2 (.pair (.int .u32) (.int .u32)) none], [6], [0]⟩ [] (by kernel_rfl) trivial
  · rcases iteS h with ⟨b610_e0, h⟩ | ⟨b610_e0, h⟩
    · refine At.step hm ht ⟨[(2, .b false)], [true], [], [2], [0]⟩ 2 ⟨[(2, .one (.c (.d (.int .i64 many))))], [], [(0, [.d (.int .u32 x_0), .d (.int .i64 x_1), .d (.sl .unit [])])], 1⟩ [(decide ((many : Int) < 1)) = false, (decide ((many : Int) > 1024)) = true] (by kernel_rfl) ⟨b610_2, b610_e0, trivial⟩ ?_
      have h := Option.some.inj h
      subst h
      exact At.fin hm ht ⟨[], [], [.nil true 0 2 (.pair (.int .u32) (.int .u32)) none], [6], [0]⟩ [] (by kernel_rfl) trivial
    · refine At.step hm ht ⟨[(2, .b false)], [false], [], [0, 1, 2], [0]⟩ 3 ⟨[(0, .one (.c (.ptr 0 0))), (1, .one (.c (.d (.int .u32 from_)))), (2, .one (.c (.d (.int .i64 many))))], [], [(0, [.d (.int .u32 x_0), .d (.int .i64 x_1), .d (.sl .unit [])])], 1⟩ [(decide ((many : Int) < 1)) = false, (decide ((many : Int) > 1024)) = false] (by kernel_rfl) ⟨b610_2, b610_e0, trivial⟩ ?_
      refine At.step hm ht ⟨[], [], [], [0, 1, 7], [0]⟩ 4 ⟨[(0, .one (.c (.ptr 0 0))), (1, .one (.c (.d (.int .u32 from_)))), (7, .one (.c (.d (.int .u32 (IntKind.wrap .u32 (from_ + (IntKind.wrap .u32 many)))))))], [], [(0, [.d (.int .u32 x_0), .d (.int .i64 x_1), .d (.sl .unit [])])], 1⟩ [] (by kernel_rfl) trivial ?_
      obtain ⟨r614_0, cr614_0, h⟩ := bindS h
      rcases iteS h with ⟨b614_e0, h⟩ | ⟨b614_e0, h⟩
      · refine At.step hm ht ⟨[(5, .call [] [] (f89_serial_Diff_out r614_0))], [true], [], [0, 1], [0]⟩ 5 ⟨[(0, .one (.c (.ptr 0 0))), (1, .one (.c (.d (.int .u32 from_))))], [], [(0, [.d (.int .u32 x_0), .d (.int .i64 x_1), .d (.sl .unit [])])], 1⟩ [FnOK Go.Proofs.Try.prog 89 (f89_serial_Diff_in (IntKind.wrap .u32 (from_ + (IntKind.wrap .u32 many))) x_0) (f89_serial_Diff_out r614_0), (decide ((r614_0 : Int) ≤ 0)) = true] (by kernel_rfl) ⟨(f89_serial_Diff_ok (IntKind.wrap .u32 (from_ + (IntKind.wrap .u32 many))) x_0 r614_0 cr614_0), b614_e0, trivial⟩ ?_
        obtain ⟨r615_0, cr615_0, h⟩ := bindS h
        have h := Option.some.inj h
        subst h
        exact At.fin hm ht ⟨[(5, .call [] [] (f90_serial_Near_out r615_0))], [], [.nil true 0 2 (.pair (.int .u32) (.int .u32)) none], [6], [0]⟩ [FnOK Go.Proofs.Try.prog 90 (f90_serial_Near_in from_ x_0 1048576) (f90_serial_Near_out r615_0)] (by kernel_rfl) ⟨(f90_serial_Near_ok from_ x_0 1048576 r615_0 cr615_0), trivial⟩
      · refine At.step hm ht ⟨[(5, .call [] [] (f89_serial_Diff_out r614_0))], [false], [], [0, 1, 7], [0]⟩ 6 ⟨[(0, .one (.c (.ptr 0 0))), (1, .one (.c (.d (.int .u32 from_)))), (7, .one (.c (.d (.int .u32 (IntKind.wrap .u32 (from_ + (IntKind.wrap .u32 many)))))))], [], [(0, [.d (.int .u32 x_0), .d (.int .i64 x_1), .d (.sl .unit [])])], 1⟩ [FnOK Go.Proofs.Try.prog 89 (f89_serial_Diff_in (IntKind.wrap .u32 (from_ + (IntKind.wrap .u32 many))) x_0) (f89_serial_Diff_out r614_0), (decide ((r614_0 : Int) ≤ 0)) = false] (by kernel_rfl) ⟨(f89_serial_Diff_ok (IntKind.wrap .u32 (from_ + (IntKind.wrap .u32 many))) x_0 r614_0 cr614_0), b614_e0, trivial⟩ ?_
        obtain ⟨r616_0, cr616_0, h⟩ := bindS h
        rcases iteS h with ⟨b616_e0, h⟩ | ⟨b616_e0, h⟩
        · refine At.step hm ht ⟨[(5, .call [] [] (f91_serial_Less_out r616_0))], [true], [], [0, 7], [0]⟩ 7 ⟨[(0, .one (.c (.ptr 0 0))), (7, .one (.c (.d (.int .u32 (IntKind.wrap .u32 (from_ + (IntKind.wrap .u32 many)))))))], [], [(0, [.d (.int .u32 x_0), .d (.int .i64 x_1), .d (.sl .unit [])])], 1⟩ [FnOK Go.Proofs.Try.prog 91 (f91_serial_Less_in from_ x_0) (f91_serial_Less_out r616_0), r616_0 = true] (by kernel_rfl) ⟨(f91_serial_Less_ok from_ x_0 r616_0 cr616_0), b616_e0, trivial⟩ ?_
          refine At.step hm ht ⟨[], [], [], [0, 1, 7], [0]⟩ 8 ⟨[(0, .one (.c (.ptr 0 0))), (1, .one (.c (.d (.int .u32 x_0)))), (7, .one (.c (.d (.int .u32 (IntKind.wrap .u32 (from_ + (IntKind.wrap .u32 many)))))))], [], [(0, [.d (.int .u32 x_0), .d (.int .i64 x_1), .d (.sl .unit [])])], 1⟩ [] (by kernel_rfl) trivial ?_
          obtain ⟨r618_0, cr618_0, h⟩ := bindS h
          rcases iteS h with ⟨b618_4, h⟩ | ⟨b618_4, h⟩
          · refine At.step hm ht ⟨[(2, .call [0] [] (f92_sack_Board_near_out r618_0)), (4, .b true)], [true], [], [], [0]⟩ 9 ⟨[], [], [(0, [.d (.int .u32 r618_0.2.1), .d (.int .i64 r618_0.2.2), .d (.sl .unit [])])], 1⟩ [FnOK Go.Proofs.Try.prog 92 (f92_sack_Board_near_in x_0 x_0 x_1) (f92_sack_Board_near_out r618_0), (!r618_0.1) = true, true = true] (by kernel_rfl) ⟨(f92_sack_Board_near_ok x_0 x_0 x_1 r618_0 cr618_0), b618_4, rfl, trivial⟩ ?_
            have h := Option.some.inj h
            subst h
            exact At.fin hm ht ⟨[], [], [.nil true 0 2 (.pair (.int .u32) (.int .u32)) none], [6], [0]⟩ [] (by kernel_rfl) trivial
          · obtain ⟨r618_1, cr618_1, h⟩ := bindS h
            rcases iteS h with ⟨b618_e0, h⟩ | ⟨b618_e0, h⟩
            · refine At.step hm ht ⟨[(2, .call [0] [] (f92_sack_Board_near_out r618_0)), (4, .b false), (7, .call [0] [] (f92_sack_Board_near_out r618_1))], [true], [], [], [0]⟩ 9 ⟨[], [], [(0, [.d (.int .u32 r618_1.2.1), .d (.int .i64 r618_1.2.2), .d (.sl .unit [])])], 1⟩ [FnOK Go.Proofs.Try.prog 92 (f92_sack_Board_near_in x_0 x_0 x_1) (f92_sack_Board_near_out r618_0), (!r618_0.1) = false, FnOK Go.Proofs.Try.prog 92 (f92_sack_Board_near_in (IntKind.wrap .u32 (from_ + (IntKind.wrap .u32 many))) r618_0.2.1 r618_0.2.2) (f92_sack_Board_near_out r618_1), (!r618_1.1) = true] (by kernel_rfl) ⟨(f92_sack_Board_near_ok x_0 x_0 x_1 r618_0 cr618_0), b618_4, (f92_sack_Board_near_ok (IntKind.wrap .u32 (from_ + (IntKind.wrap .u32 many))) r618_0.2.1 r618_0.2.2 r618_1 cr618_1), b618_e0, trivial⟩ ?_
              have h := Option.some.inj h
              subst h
              exact At.fin hm ht ⟨[], [], [.nil true 0 2 (.pair (.int .u32) (.int .u32)) none], [6], [0]⟩ [] (by kernel_rfl) trivial
            · refine At.step hm ht ⟨[(2, .call [0] [] (f92_sack_Board_near_out r618_0)), (4, .b false), (7, .call [0] [] (f92_sack_Board_near_out r618_1))], [false], [], [0, 1, 7], [0]⟩ 10 ⟨[(0, .one (.c (.ptr 0 0))), (1, .one (.c (.d (.int .u32 x_0)))), (7, .one (.c (.d (.int .u32 (IntKind.wrap .u32 (from_ + (IntKind.wrap .u32 many)))))))], [], [(0, [.d (.int .u32 r618_1.2.1), .d (.int .i64 r618_1.2.2), .d (.sl .unit [])])], 1⟩ [FnOK Go.Proofs.Try.prog 92 (f92_sack_Board_near_in x_0 x_0 x_1) (f92_sack_Board_near_out r618_0), (!r618_0.1) = false, FnOK Go.Proofs.Try.prog 92 (f92_sack_Board_near_in (IntKind.wrap .u32 (from_ + (IntKind.wrap .u32 many))) r618_0.2.1 r618_0.2.2) (f92_sack_Board_near_out r618_1), (!r618_1.1) = false] (by kernel_rfl) ⟨(f92_sack_Board_near_ok x_0 x_0 x_1 r618_0 cr618_0), b618_4, (f92_sack_Board_near_ok (IntKind.wrap .u32 (from_ + (IntKind.wrap .u32 many))) r618_0.2.1 r618_0.2.2 r618_1 cr618_1), b618_e0, trivial⟩ ?_
              obtain ⟨r621_0, cr621_0, h⟩ := bindS h
              have h := Option.some.inj h
              subst h
              exact At.fin hm ht ⟨[(4, .call [0] [] (f93_sack_Board_put_out r621_0))], [], [], [6], [0]⟩ [FnOK Go.Proofs.Try.prog 93 (f93_sack_Board_put_in x_0 (IntKind.wrap .u32 (from_ + (IntKind.wrap .u32 many))) r618_1.2.1 r618_1.2.2) (f93_sack_Board_put_out r621_0)] (by kernel_rfl) ⟨(f93_sack_Board_put_ok n x_0 (IntKind.wrap .u32 (from_ + (IntKind.wrap .u32 many))) r618_1.2.1 r618_1.2.2 r621_0 cr621_0), trivial⟩
        · refine At.step hm ht ⟨[(5, .call [] [] (f91_serial_Less_out r616_0))], [false], [], [0, 1, 7], [0]⟩ 8 ⟨[(0, .one (.c (.ptr 0 0))), (1, .one (.c (.d (.int .u32 from_)))), (7, .one (.c (.d (.int .u32 (IntKind.wrap .u32 (from_ + (IntKind.wrap .u32 many)))))))], [], [(0, [.d (.int .u32 x_0), .d (.int .i64 x_1), .d (.sl .unit [])])], 1⟩ [FnOK Go.Proofs.Try.prog 91 (f91_serial_Less_in from_ x_0) (f91_serial_Less_out r616_0), r616_0 = false] (by kernel_rfl) ⟨(f91_serial_Less_ok from_ x_0 r616_0 cr616_0), b616_e0, trivial⟩ ?_
          obtain ⟨r622_0, cr622_0, h⟩ := bindS h
          rcases iteS h with ⟨b622_4, h⟩ | ⟨b622_4, h⟩
          · refine At.step hm ht ⟨[(2, .call [0] [] (f92_sack_Board_near_out r622_0)), (4, .b true)], [true], [], [], [0]⟩ 9 ⟨[], [], [(0, [.d (.int .u32 r622_0.2.1), .d (.int .i64 r622_0.2.2), .d (.sl .unit [])])], 1⟩ [FnOK Go.Proofs.Try.prog 92 (f92_sack_Board_near_in from_ x_0 x_1) (f92_sack_Board_near_out r622_0), (!r622_0.1) = true, true = true] (by kernel_rfl) ⟨(f92_sack_Board_near_ok from_ x_0 x_1 r622_0 cr622_0), b622_4, rfl, trivial⟩ ?_
            have h := Option.some.inj h
            subst h
            exact At.fin hm ht ⟨[], [], [.nil true 0 2 (.pair (.int .u32) (.int .u32)) none], [6], [0]⟩ [] (by kernel_rfl) trivial
          · obtain ⟨r622_1, cr622_1, h⟩ := bindS h
            rcases iteS h with ⟨b622_e0, h⟩ | ⟨b622_e0, h⟩
            · refine At.step hm ht ⟨[(2, .call [0] [] (f92_sack_Board_near_out r622_0)), (4, .b false), (7, .call [0] [] (f92_sack_Board_near_out r622_1))], [true], [], [], [0]⟩ 9 ⟨[], [], [(0, [.d (.int .u32 r622_1.2.1), .d (.int .i64 r622_1.2.2), .d (.sl .unit [])])], 1⟩ [FnOK Go.Proofs.Try.prog 92 (f92_sack_Board_near_in from_ x_0 x_1) (f92_sack_Board_near_out r622_0), (!r622_0.1) = false, FnOK Go.Proofs.Try.prog 92 (f92_sack_Board_near_in (IntKind.wrap .u32 (from_ + (IntKind.wrap .u32 many))) r622_0.2.1 r622_0.2.2) (f92_sack_Board_near_out r622_1), (!r622_1.1) = true] (by kernel_rfl) ⟨(f92_sack_Board_near_ok from_ x_0 x_1 r622_0 cr622_0), b622_4, (f92_sack_Board_near_ok (IntKind.wrap .u32 (from_ + (IntKind.wrap .u32 many))) r622_0.2.1 r622_0.2.2 r622_1 cr622_1), b622_e0, trivial⟩ ?_
              have h := Option.some.inj h
              subst h
              exact At.fin hm ht ⟨[], [], [.nil true 0 2 (.pair (.int .u32) (.int .u32)) none], [6], [0]⟩ [] (by kernel_rfl) trivial
            · refine At.step hm ht ⟨[(2, .call [0] [] (f92_sack_Board_near_out r622_0)), (4, .b false), (7, .call [0] [] (f92_sack_Board_near_out r622_1))], [false], [], [0, 1, 7], [0]⟩ 10 ⟨[(0, .one (.c (.ptr 0 0))), (1, .one (.c (.d (.int .u32 from_)))), (7, .one (.c (.d (.int .u32 (IntKind.wrap .u32 (from_ + (IntKind.wrap .u32 many)))))))], [], [(0, [.d (.int .u32 r622_1.2.1), .d (.int .i64 r622_1.2.2), .d (.sl .unit [])])], 1⟩ [FnOK Go.Proofs.Try.prog 92 (f92_sack_Board_near_in from_ x_0 x_1) (f92_sack_Board_near_out r622_0), (!r622_0.1) = false, FnOK Go.Proofs.Try.prog 92 (f92_sack_Board_near_in (IntKind.wrap .u32 (from_ + (IntKind.wrap .u32 many))) r622_0.2.1 r622_0.2.2) (f92_sack_Board_near_out r622_1), (!r622_1.1) = false] (by kernel_rfl) ⟨(f92_sack_Board_near_ok from_ x_0 x_1 r622_0 cr622_0), b622_4, (f92_sack_Board_near_ok (IntKind.wrap .u32 (from_ + (IntKind.wrap .u32 many))) r622_0.2.1 r622_0.2.2 r622_1 cr622_1), b622_e0, trivial⟩ ?_
              obtain ⟨r625_0, cr625_0, h⟩ := bindS h
              have h := Option.some.inj h
              subst h
              exact At.fin hm ht ⟨[(4, .call [0] [] (f93_sack_Board_put_out r625_0))], [], [], [6], [0]⟩ [FnOK Go.Proofs.Try.prog 93 (f93_sack_Board_put_in from_ (IntKind.wrap .u32 (from_ + (IntKind.wrap .u32 many))) r622_1.2.1 r622_1.2.2) (f93_sack_Board_put_out r625_0)] (by kernel_rfl) ⟨(f93_sack_Board_put_ok n from_ (IntKind.wrap .u32 (from_ + (IntKind.wrap .u32 many))) r622_1.2.1 r622_1.2.2 r625_0 cr625_0), trivial⟩
/-! (*brougham/sack.Board).near -/
def f92_sack_Board_near_v2_in (n_ : Int) (x_0 : Int) (x_1 : Int) (x_2 : List (Int × Int)) : Inn := ⟨[.c (.ptr 0 0), .c (.d (.int .u32 n_))], [], [(0, [.d (.int .u32 x_0), .d (.int .i64 x_1), .d (.sl (.pair (.int .u32) (.int .u32)) x_2)])], 1⟩
def f92_sack_Board_near_v2_out (r : Bool × Int × Int × List (Int × Int)) : Out := ⟨.one (.c (.d (.bool r.1))), [], [(0, [.d (.int .u32 r.2.1), .d (.int .i64 r.2.2.1), .d (.sl (.pair (.int .u32) (.int .u32)) r.2.2.2)])], 1⟩
def f92_sack_Board_near_v2 (n_ : Int) (x_0 : Int) (x_1 : Int) (x_2 : List (Int × Int)) : Option (Bool × Int × Int × List (Int × Int)) :=
  (f127_serial_Within n_ x_0 1048577).bind fun r638_0 =>
  some (r638_0, x_0, x_1, x_2)
theorem f92_sack_Board_near_v2_ok (n_ : Int) (x_0 : Int) (x_1 : Int) (x_2 : List (Int × Int)) (r : Bool × Int × Int × List (Int × Int)) (h : f92_sack_Board_near_v2 n_ x_0 x_1 x_2 = some r) : FnOK Go.Proofs.Try.prog 92 (f92_sack_Board_near_v2_in n_ x_0 x_1 x_2) (f92_sack_Board_near_v2_out r) := by
  unfold f92_sack_Board_near_v2 at h
  refine At.fn (r := 0) Go.Proofs.Try.func92 rfl (by kernel_rfl) rfl rfl (by kernel_rfl) ?_
  show At Go.Proofs.Try.prog Go.Proofs.Try.f92 1 0 ⟨[(0, .one (.c (.ptr 0 0))), (1, .one (.c (.d (.int .u32 n_))))], [], [(0, [.d (.int .u32 x_0), .d (.int .i64 x_1), .d (.sl (.pair (.int .u32) (.int .u32)) x_2)])], 1⟩ _
  refine At.step hm ht ⟨[], [], [], [0, 1], [0]⟩ 1 ⟨[(0, .one (.c (.ptr 0 0))), (1, .one (.c (.d (.int .u32 n_))))], [], [(0, [.d (.int .u32 x_0), .d (.int .i64 x_1), .d (.sl (.pair (.int .u32) (.int .u32)) x_2)])], 1⟩ [] (by kernel_rfl) trivial ?_
  obtain ⟨r638_0, cr638_0, h⟩ := bindS h
  have h := Option.some.inj h
  subst h
  exact At.fin hm ht ⟨[(5, .call [] [] (f127_serial_Within_out r638_0))], [], [], [4], [0]⟩ [FnOK Go.Proofs.Try.prog 127 (f127_serial_Within_in n_ x_0 1048577) (f127_serial_Within_out r638_0)] (by kernel_rfl) ⟨(f127_serial_Within_ok n_ x_0 1048577 r638_0 cr638_0), trivial⟩
/-! (*brougham/sack.Board).put -/
def f93_sack_Board_put_v2_in (b_0 : Int) (b_1 : Int) (x_0 : Int) (x_1 : Int) (x_2 : List (Int × Int)) : Inn := ⟨[.c (.ptr 0 0), .agg [.d (.int .u32 b_0), .d (.int .u32 b_1)]], [], [(0, [.d (.int .u32 x_0), .d (.int .i64 x_1), .d (.sl (.pair (.int .u32) (.int .u32)) x_2)])], 1⟩
def f93_sack_Board_put_v2_out (r : Bool × Int × Int × List (Int × Int)) : Out := ⟨.one (.c (.d (.bool r.1))), [], [(0, [.d (.int .u32 r.2.1), .d (.int .i64 r.2.2.1), .d (.sl (.pair (.int .u32) (.int .u32)) r.2.2.2)])], 1⟩
def f93_sack_Board_put_v2_L4 : Nat → (List (Int × Int)) → Bool → (List (Int × Int)) → Int → Int → Int → Int → (List (Int × Int)) → Int → Int → Option ((List (Int × Int)) × Bool × Int × Int × (List (Int × Int)) × Int × Int)
  | 0, _, _, _, _, _, _, _, _, _, _ => none
  | n + 1, out, done, t12, t13, t14, x_0, x_1, x_2, b_0, b_1 =>
    if (decide ((t14 : Int) < t13)) = true then
      if (0 : Int) ≤ t14 ∧ t14 < (((t12).length : Nat) : Int) then
      (f91_serial_Less ((t12.getD t14.toNat (0, 0)).2) b_0).bind fun r657_0 =>
      if r657_0 = true then
        if out.length + [(t12.getD t14.toNat (0, 0))].length ≤ maxLen ∧ (out.length + [(t12.getD t14.toNat (0, 0))].length) * 8 ≤ 140737488355328 then
        f93_sack_Board_put_v2_L4 n (out ++ [(t12.getD t14.toNat (0, 0))]) done t12 t13 (IntKind.wrap .i64 (t14 + 1)) x_0 x_1 x_2 b_0 b_1
        else none
      else
        (f91_serial_Less b_1 ((t12.getD t14.toNat (0, 0)).1)).bind fun r660_0 =>
        if r660_0 = true then
          if (!done) = true then
            if out.length + [(b_0, b_1)].length ≤ maxLen ∧ (out.length + [(b_0, b_1)].length) * 8 ≤ 140737488355328 then
            if (out ++ [(b_0, b_1)]).length + [(t12.getD t14.toNat (0, 0))].length ≤ maxLen ∧ ((out ++ [(b_0, b_1)]).length + [(t12.getD t14.toNat (0, 0))].length) * 8 ≤ 140737488355328 then
            f93_sack_Board_put_v2_L4 n ((out ++ [(b_0, b_1)]) ++ [(t12.getD t14.toNat (0, 0))]) true t12 t13 (IntKind.wrap .i64 (t14 + 1)) x_0 x_1 x_2 b_0 b_1
            else none
            else none
          else
            if out.length + [(t12.getD t14.toNat (0, 0))].length ≤ maxLen ∧ (out.length + [(t12.getD t14.toNat (0, 0))].length) * 8 ≤ 140737488355328 then
            f93_sack_Board_put_v2_L4 n (out ++ [(t12.getD t14.toNat (0, 0))]) done t12 t13 (IntKind.wrap .i64 (t14 + 1)) x_0 x_1 x_2 b_0 b_1
            else none
        else
          (f91_serial_Less ((t12.getD t14.toNat (0, 0)).1) b_0).bind fun r668_0 =>
          if r668_0 = true then
            (f128_serial_Max b_1 ((t12.getD t14.toNat (0, 0)).2)).bind fun r670_0 =>
            f93_sack_Board_put_v2_L4 n out done t12 t13 (IntKind.wrap .i64 (t14 + 1)) x_0 x_1 x_2 ((t12.getD t14.toNat (0, 0)).1) r670_0
          else
            (f128_serial_Max b_1 ((t12.getD t14.toNat (0, 0)).2)).bind fun r672_0 =>
            f93_sack_Board_put_v2_L4 n out done t12 t13 (IntKind.wrap .i64 (t14 + 1)) x_0 x_1 x_2 b_0 r672_0
      else none
    else
      some ((out, done, x_0, x_1, x_2, b_0, b_1))
def f93_sack_Board_put_v2_L4_k (e : (List (Int × Int)) × Bool × Int × Int × (List (Int × Int)) × Int × Int) (o : Out) : Prop := At Go.Proofs.Try.prog Go.Proofs.Try.f93 1 17 ⟨[(0, .one (.c (.ptr 0 0))), (3, .one (.c (.ptr 1 0))), (5, .one (.c (.own 2 (.pair (.int .u32) (.int .u32)) e.1))), (6, .one (.c (.d (.bool e.2.1))))], [(2, some ⟨160, 0⟩)], [(0, [.d (.int .u32 e.2.2.1), .d (.int .i64 e.2.2.2.1), .d (.sl (.pair (.int .u32) (.int .u32)) e.2.2.2.2.1)]), (1, [.d (.int .u32 e.2.2.2.2.2.1), .d (.int .u32 e.2.2.2.2.2.2)])], 3⟩ o
theorem f93_sack_Board_put_v2_L4_ok (n : Nat) : ∀ (out : List (Int × Int)) (done : Bool) (t12 : List (Int × Int)) (t13 : Int) (t14 : Int) (x_0 : Int) (x_1 : Int) (x_2 : List (Int × Int)) (b_0 : Int) (b_1 : Int) (w : (List (Int × Int)) × Bool × Int × Int × (List (Int × Int)) × Int × Int) (h : f93_sack_Board_put_v2_L4 n out done t12 t13 t14 x_0 x_1 x_2 b_0 b_1 = some w) (o : Out) (hk : f93_sack_Board_put_v2_L4_k w o), At Go.Proofs.Try.prog Go.Proofs.Try.f93 1 4 ⟨[(0, .one (.c (.ptr 0 0))), (3, .one (.c (.ptr 1 0))), (5, .one (.c (.own 2 (.pair (.int .u32) (.int .u32)) out))), (6, .one (.c (.d (.bool done)))), (12, .one (.c (.d (.sl (.pair (.int .u32) (.int .u32)) t12)))), (13, .one (.c (.d (.int .i64 t13)))), (14, .one (.c (.d (.int .i64 t14))))], [(2, some ⟨160, 0⟩)], [(0, [.d (.int .u32 x_0), .d (.int .i64 x_1), .d (.sl (.pair (.int .u32) (.int .u32)) x_2)]), (1, [.d (.int .u32 b_0), .d (.int .u32 b_1)])], 3⟩ o := by
  induction n with
  | zero => intro out done t12 t13 t14 x_0 x_1 x_2 b_0 b_1 w h; rw [f93_sack_Board_put_v2_L4] at h; cases h
  | succ n ih =>
    intro out done t12 t13 t14 x_0 x_1 x_2 b_0 b_1 w h o hk
    rw [f93_sack_Board_put_v2_L4] at h
    rcases iteS h with ⟨b655_e0, h⟩ | ⟨b655_e0, h⟩
    · refine At.step hm ht ⟨[], [true], [], [0, 3, 5, 6, 12, 13, 14], [0, 1, 2]⟩ 5 ⟨[(0, .one (.c (.ptr 0 0))), (3, .one (.c (.ptr 1 0))), (5, .one (.c (.own 2 (.pair (.int .u32) (.int .u32)) out))), (6, .one (.c (.d (.bool done)))), (12, .one (.c (.d (.sl (.pair (.int .u32) (.int .u32)) t12)))), (13, .one (.c (.d (.int .i64 t13)))), (14, .one (.c (.d (.int .i64 t14))))], [(2, some ⟨160, 0⟩)], [(0, [.d (.int .u32 x_0), .d (.int .i64 x_1), .d (.sl (.pair (.int .u32) (.int .u32)) x_2)]), (1, [.d (.int .u32 b_0), .d (.int .u32 b_1)])], 3⟩ [(decide ((t14 : Int) < t13)) = true] (by kernel_rfl) ⟨b655_e0, trivial⟩ ?_
      obtain ⟨g656_0, h⟩ := ifS h
      refine At.step hm ht ⟨[], [], [], [0, 3, 5, 6, 8, 12, 13, 14], [0, 1, 2, 5]⟩ 9 ⟨[(0, .one (.c (.ptr 0 0))), (3, .one (.c (.ptr 1 0))), (5, .one (.c (.own 2 (.pair (.int .u32) (.int .u32)) out))), (6, .one (.c (.d (.bool done)))), (8, .one (.c (.ptr 3 0))), (12, .one (.c (.d (.sl (.pair (.int .u32) (.int .u32)) t12)))), (13, .one (.c (.d (.int .i64 t13)))), (14, .one (.c (.d (.int .i64 t14))))], [(2, some ⟨160, 0⟩)], [(0, [.d (.int .u32 x_0), .d (.int .i64 x_1), .d (.sl (.pair (.int .u32) (.int .u32)) x_2)]), (1, [.d (.int .u32 b_0), .d (.int .u32 b_1)]), (3, [.d (.int .u32 ((t12.getD t14.toNat (0, 0)).1)), .d (.int .u32 ((t12.getD t14.toNat (0, 0)).2))])], 4⟩ [(0 : Int) ≤ t14 ∧ t14 < (((t12).length : Nat) : Int), 0 + 2 ≤ 2] (by kernel_rfl) ⟨g656_0, (by decide), trivial⟩ ?_
      obtain ⟨r657_0, cr657_0, h⟩ := bindS h
      rcases iteS h with ⟨b657_e0, h⟩ | ⟨b657_e0, h⟩
      · refine At.step hm ht ⟨[(4, .call [] [] (f91_serial_Less_out r657_0))], [true], [], [0, 3, 5, 6, 8, 12, 13, 14], [0, 1, 2, 3]⟩ 10 ⟨[(0, .one (.c (.ptr 0 0))), (3, .one (.c (.ptr 1 0))), (5, .one (.c (.own 2 (.pair (.int .u32) (.int .u32)) out))), (6, .one (.c (.d (.bool done)))), (8, .one (.c (.ptr 3 0))), (12, .one (.c (.d (.sl (.pair (.int .u32) (.int .u32)) t12)))), (13, .one (.c (.d (.int .i64 t13)))), (14, .one (.c (.d (.int .i64 t14))))], [(2, some ⟨160, 0⟩)], [(0, [.d (.int .u32 x_0), .d (.int .i64 x_1), .d (.sl (.pair (.int .u32) (.int .u32)) x_2)]), (1, [.d (.int .u32 b_0), .d (.int .u32 b_1)]), (3, [.d (.int .u32 ((t12.getD t14.toNat (0, 0)).1)), .d (.int .u32 ((t12.getD t14.toNat (0, 0)).2))])], 4⟩ [FnOK Go.Proofs.Try.prog 91 (f91_serial_Less_in ((t12.getD t14.toNat (0, 0)).2) b_0) (f91_serial_Less_out r657_0), r657_0 = true] (by kernel_rfl) ⟨(f91_serial_Less_ok ((t12.getD t14.toNat (0, 0)).2) b_0 r657_0 cr657_0), b657_e0, trivial⟩ ?_
        obtain ⟨g658_0, h⟩ := ifS h
        refine At.step hm ht ⟨[], [], [], [0, 3, 5, 6, 12, 13, 14], [0, 1, 7]⟩ 16 ⟨[(0, .one (.c (.ptr 0 0))), (3, .one (.c (.ptr 1 0))), (5, .one (.c (.own 2 (.pair (.int .u32) (.int .u32)) (out ++ [(t12.getD t14.toNat (0, 0))])))), (6, .one (.c (.d (.bool done)))), (12, .one (.c (.d (.sl (.pair (.int .u32) (.int .u32)) t12)))), (13, .one (.c (.d (.int .i64 t13)))), (14, .one (.c (.d (.int .i64 t14))))], [(2, some ⟨160, 0⟩)], [(0, [.d (.int .u32 x_0), .d (.int .i64 x_1), .d (.sl (.pair (.int .u32) (.int .u32)) x_2)]), (1, [.d (.int .u32 b_0), .d (.int .u32 b_1)])], 3⟩ [out.length + [(t12.getD t14.toNat (0, 0))].length ≤ maxLen ∧ (out.length + [(t12.getD t14.toNat (0, 0))].length) * 8 ≤ 140737488355328] (by kernel_rfl) ⟨g658_0, trivial⟩ ?_
        refine At.step hm ht ⟨[], [], [], [0, 3, 5, 6, 12, 13, 14], [0, 1, 2]⟩ 4 ⟨[(0, .one (.c (.ptr 0 0))), (3, .one (.c (.ptr 1 0))), (5, .one (.c (.own 2 (.pair (.int .u32) (.int .u32)) (out ++ [(t12.getD t14.toNat (0, 0))])))), (6, .one (.c (.d (.bool done)))), (12, .one (.c (.d (.sl (.pair (.int .u32) (.int .u32)) t12)))), (13, .one (.c (.d (.int .i64 t13)))), (14, .one (.c (.d (.int .i64 (IntKind.wrap .i64 (t14 + 1))))))], [(2, some ⟨160, 0⟩)], [(0, [.d (.int .u32 x_0), .d (.int .i64 x_1), .d (.sl (.pair (.int .u32) (.int .u32)) x_2)]), (1, [.d (.int .u32 b_0), .d (.int .u32 b_1)])], 3⟩ [] (by kernel_rfl) trivial ?_
        exact ih (out ++ [(t12.getD t14.toNat (0, 0))]) done t12 t13 (IntKind.wrap .i64 (t14 + 1)) x_0 x_1 x_2 b_0 b_1 w h o hk
      · refine At.step hm ht ⟨[(4, .call [] [] (f91_serial_Less_out r657_0))], [false], [], [0, 3, 5, 6, 8, 12, 13, 14], [0, 1, 2, 3]⟩ 11 ⟨[(0, .one (.c (.ptr 0 0))), (3, .one (.c (.ptr 1 0))), (5, .one (.c (.own 2 (.pair (.int .u32) (.int .u32)) out))), (6, .one (.c (.d (.bool done)))), (8, .one (.c (.ptr 3 0))), (12, .one (.c (.d (.sl (.pair (.int .u32) (.int .u32)) t12)))), (13, .one (.c (.d (.int .i64 t13)))), (14, .one (.c (.d (.int .i64 t14))))], [(2, some ⟨160, 0⟩)], [(0, [.d (.int .u32 x_0), .d (.int .i64 x_1), .d (.sl (.pair (.int .u32) (.int .u32)) x_2)]), (1, [.d (.int .u32 b_0), .d (.int .u32 b_1)]), (3, [.d (.int .u32 ((t12.getD t14.toNat (0, 0)).1)), .d (.int .u32 ((t12.getD t14.toNat (0, 0)).2))])], 4⟩ [FnOK Go.Proofs.Try.prog 91 (f91_serial_Less_in ((t12.getD t14.toNat (0, 0)).2) b_0) (f91_serial_Less_out r657_0), r657_0 = false] (by kernel_rfl) ⟨(f91_serial_Less_ok ((t12.getD t14.toNat (0, 0)).2) b_0 r657_0 cr657_0), b657_e0, trivial⟩ ?_
        obtain ⟨r660_0, cr660_0, h⟩ := bindS h
        rcases iteS h with ⟨b660_e0, h⟩ | ⟨b660_e0, h⟩
        · refine At.step hm ht ⟨[(4, .call [] [] (f91_serial_Less_out r660_0))], [true], [], [0, 3, 5, 6, 8, 12, 13, 14], [0, 1, 2, 3]⟩ 12 ⟨[(0, .one (.c (.ptr 0 0))), (3, .one (.c (.ptr 1 0))), (5, .one (.c (.own 2 (.pair (.int .u32) (.int .u32)) out))), (6, .one (.c (.d (.bool done)))), (8, .one (.c (.ptr 3 0))), (12, .one (.c (.d (.sl (.pair (.int .u32) (.int .u32)) t12)))), (13, .one (.c (.d (.int .i64 t13)))), (14, .one (.c (.d (.int .i64 t14))))], [(2, some ⟨160, 0⟩)], [(0, [.d (.int .u32 x_0), .d (.int .i64 x_1), .d (.sl (.pair (.int .u32) (.int .u32)) x_2)]), (1, [.d (.int .u32 b_0), .d (.int .u32 b_1)]), (3, [.d (.int .u32 ((t12.getD t14.toNat (0, 0)).1)), .d (.int .u32 ((t12.getD t14.toNat (0, 0)).2))])], 4⟩ [FnOK Go.Proofs.Try.prog 91 (f91_serial_Less_in b_1 ((t12.getD t14.toNat (0, 0)).1)) (f91_serial_Less_out r660_0), r660_0 = true] (by kernel_rfl) ⟨(f91_serial_Less_ok b_1 ((t12.getD t14.toNat (0, 0)).1) r660_0 cr660_0), b660_e0, trivial⟩ ?_
          rcases iteS h with ⟨b661_e0, h⟩ | ⟨b661_e0, h⟩
          · refine At.step hm ht ⟨[], [true], [], [0, 3, 5, 8, 12, 13, 14], [0, 1, 2, 3]⟩ 13 ⟨[(0, .one (.c (.ptr 0 0))), (3, .one (.c (.ptr 1 0))), (5, .one (.c (.own 2 (.pair (.int .u32) (.int .u32)) out))), (8, .one (.c (.ptr 3 0))), (12, .one (.c (.d (.sl (.pair (.int .u32) (.int .u32)) t12)))), (13, .one (.c (.d (.int .i64 t13)))), (14, .one (.c (.d (.int .i64 t14))))], [(2, some ⟨160, 0⟩)], [(0, [.d (.int .u32 x_0), .d (.int .i64 x_1), .d (.sl (.pair (.int .u32) (.int .u32)) x_2)]), (1, [.d (.int .u32 b_0), .d (.int .u32 b_1)]), (3, [.d (.int .u32 ((t12.getD t14.toNat (0, 0)).1)), .d (.int .u32 ((t12.getD t14.toNat (0, 0)).2))])], 4⟩ [(!done) = true] (by kernel_rfl) ⟨b661_e0, trivial⟩ ?_
            obtain ⟨g662_0, h⟩ := ifS h
            refine At.step hm ht ⟨[], [], [], [0, 3, 5, 8, 12, 13, 14], [0, 1, 7, 3]⟩ 14 ⟨[(0, .one (.c (.ptr 0 0))), (3, .one (.c (.ptr 1 0))), (5, .one (.c (.own 2 (.pair (.int .u32) (.int .u32)) (out ++ [(b_0, b_1)])))), (8, .one (.c (.ptr 3 0))), (12, .one (.c (.d (.sl (.pair (.int .u32) (.int .u32)) t12)))), (13, .one (.c (.d (.int .i64 t13)))), (14, .one (.c (.d (.int .i64 t14))))], [(2, some ⟨160, 0⟩)], [(0, [.d (.int .u32 x_0), .d (.int .i64 x_1), .d (.sl (.pair (.int .u32) (.int .u32)) x_2)]), (1, [.d (.int .u32 b_0), .d (.int .u32 b_1)]), (3, [.d (.int .u32 ((t12.getD t14.toNat (0, 0)).1)), .d (.int .u32 ((t12.getD t14.toNat (0, 0)).2))])], 4⟩ [out.length + [(b_0, b_1)].length ≤ maxLen ∧ (out.length + [(b_0, b_1)].length) * 8 ≤ 140737488355328] (by kernel_rfl) ⟨g662_0, trivial⟩ ?_
            refine At.step hm ht ⟨[], [], [], [0, 3, 5, 6, 8, 12, 13, 14], [0, 1, 2, 3]⟩ 15 ⟨[(0, .one (.c (.ptr 0 0))), (3, .one (.c (.ptr 1 0))), (5, .one (.c (.own 2 (.pair (.int .u32) (.int .u32)) (out ++ [(b_0, b_1)])))), (6, .one (.c (.d (.bool true)))), (8, .one (.c (.ptr 3 0))), (12, .one (.c (.d (.sl (.pair (.int .u32) (.int .u32)) t12)))), (13, .one (.c (.d (.int .i64 t13)))), (14, .one (.c (.d (.int .i64 t14))))], [(2, some ⟨160, 0⟩)], [(0, [.d (.int .u32 x_0), .d (.int .i64 x_1), .d (.sl (.pair (.int .u32) (.int .u32)) x_2)]), (1, [.d (.int .u32 b_0), .d (.int .u32 b_1)]), (3, [.d (.int .u32 ((t12.getD t14.toNat (0, 0)).1)), .d (.int .u32 ((t12.getD t14.toNat (0, 0)).2))])], 4⟩ [] (by kernel_rfl) trivial ?_
            obtain ⟨g664_0, h⟩ := ifS h
            refine At.step hm ht ⟨[], [], [], [0, 3, 5, 6, 12, 13, 14], [0, 1, 7]⟩ 16 ⟨[(0, .one (.c (.ptr 0 0))), (3, .one (.c (.ptr 1 0))), (5, .one (.c (.own 2 (.pair (.int .u32) (.int .u32)) ((out ++ [(b_0, b_1)]) ++ [(t12.getD t14.toNat (0, 0))])))), (6, .one (.c (.d (.bool true)))), (12, .one (.c (.d (.sl (.pair (.int .u32) (.int .u32)) t12)))), (13, .one (.c (.d (.int .i64 t13)))), (14, .one (.c (.d (.int .i64 t14))))], [(2, some ⟨160, 0⟩)], [(0, [.d (.int .u32 x_0), .d (.int .i64 x_1), .d (.sl (.pair (.int .u32) (.int .u32)) x_2)]), (1, [.d (.int .u32 b_0), .d (.int .u32 b_1)])], 3⟩ [(out ++ [(b_0, b_1)]).length + [(t12.getD t14.toNat (0, 0))].length ≤ maxLen ∧ ((out ++ [(b_0, b_1)]).length + [(t12.getD t14.toNat (0, 0))].length) * 8 ≤ 140737488355328] (by kernel_rfl) ⟨g664_0, trivial⟩ ?_
            refine At.step hm ht ⟨[], [], [], [0, 3, 5, 6, 12, 13, 14], [0, 1, 2]⟩ 4 ⟨[(0, .one (.c (.ptr 0 0))), (3, .one (.c (.ptr 1 0))), (5, .one (.c (.own 2 (.pair (.int .u32) (.int .u32)) ((out ++ [(b_0, b_1)]) ++ [(t12.getD t14.toNat (0, 0))])))), (6, .one (.c (.d (.bool true)))), (12, .one (.c (.d (.sl (.pair (.int .u32) (.int .u32)) t12)))), (13, .one (.c (.d (.int .i64 t13)))), (14, .one (.c (.d (.int .i64 (IntKind.wrap .i64 (t14 + 1))))))], [(2, some ⟨160, 0⟩)], [(0, [.d (.int .u32 x_0), .d (.int .i64 x_1), .d (.sl (.pair (.int .u32) (.int .u32)) x_2)]), (1, [.d (.int .u32 b_0), .d (.int .u32 b_1)])], 3⟩ [] (by kernel_rfl) trivial ?_
            exact ih ((out ++ [(b_0, b_1)]) ++ [(t12.getD t14.toNat (0, 0))]) true t12 t13 (IntKind.wrap .i64 (t14 + 1)) x_0 x_1 x_2 b_0 b_1 w h o hk
          · refine At.step hm ht ⟨[], [false], [], [0, 3, 5, 6, 8, 12, 13, 14], [0, 1, 2, 3]⟩ 15 ⟨[(0, .one (.c (.ptr 0 0))), (3, .one (.c (.ptr 1 0))), (5, .one (.c (.own 2 (.pair (.int .u32) (.int .u32)) out))), (6, .one (.c (.d (.bool done)))), (8, .one (.c (.ptr 3 0))), (12, .one (.c (.d (.sl (.pair (.int .u32) (.int .u32)) t12)))), (13, .one (.c (.d (.int .i64 t13)))), (14, .one (.c (.d (.int .i64 t14))))], [(2, some ⟨160, 0⟩)], [(0, [.d (.int .u32 x_0), .d (.int .i64 x_1), .d (.sl (.pair (.int .u32) (.int .u32)) x_2)]), (1, [.d (.int .u32 b_0), .d (.int .u32 b_1)]), (3, [.d (.int .u32 ((t12.getD t14.toNat (0, 0)).1)), .d (.int .u32 ((t12.getD t14.toNat (0, 0)).2))])], 4⟩ [(!done) = false] (by kernel_rfl) ⟨b661_e0, trivial⟩ ?_
            obtain ⟨g666_0, h⟩ := ifS h
            refine At.step hm ht ⟨[], [], [], [0, 3, 5, 6, 12, 13, 14], [0, 1, 7]⟩ 16 ⟨[(0, .one (.c (.ptr 0 0))), (3, .one (.c (.ptr 1 0))), (5, .one (.c (.own 2 (.pair (.int .u32) (.int .u32)) (out ++ [(t12.getD t14.toNat (0, 0))])))), (6, .one (.c (.d (.bool done)))), (12, .one (.c (.d (.sl (.pair (.int .u32) (.int .u32)) t12)))), (13, .one (.c (.d (.int .i64 t13)))), (14, .one (.c (.d (.int .i64 t14))))], [(2, some ⟨160, 0⟩)], [(0, [.d (.int .u32 x_0), .d (.int .i64 x_1), .d (.sl (.pair (.int .u32) (.int .u32)) x_2)]), (1, [.d (.int .u32 b_0), .d (.int .u32 b_1)])], 3⟩ [out.length + [(t12.getD t14.toNat (0, 0))].length ≤ maxLen ∧ (out.length + [(t12.getD t14.toNat (0, 0))].length) * 8 ≤ 140737488355328] (by kernel_rfl) ⟨g666_0, trivial⟩ ?_
            refine At.step hm ht ⟨[], [], [], [0, 3, 5, 6, 12, 13, 14], [0, 1, 2]⟩ 4 ⟨[(0, .one (.c (.ptr 0 0))), (3, .one (.c (.ptr 1 0))), (5, .one (.c (.own 2 (.pair (.int .u32) (.int .u32)) (out ++ [(t12.getD t14.toNat (0, 0))])))), (6, .one (.c (.d (.bool done)))), (12, .one (.c (.d (.sl (.pair (.int .u32) (.int .u32)) t12)))), (13, .one (.c (.d (.int .i64 t13)))), (14, .one (.c (.d (.int .i64 (IntKind.wrap .i64 (t14 + 1))))))], [(2, some ⟨160, 0⟩)], [(0, [.d (.int .u32 x_0), .d (.int .i64 x_1), .d (.sl (.pair (.int .u32) (.int .u32)) x_2)]), (1, [.d (.int .u32 b_0), .d (.int .u32 b_1)])], 3⟩ [] (by kernel_rfl) trivial ?_
            exact ih (out ++ [(t12.getD t14.toNat (0, 0))]) done t12 t13 (IntKind.wrap .i64 (t14 + 1)) x_0 x_1 x_2 b_0 b_1 w h o hk
        · refine At.step hm ht ⟨[(4, .call [] [] (f91_serial_Less_out r660_0))], [false], [], [0, 3, 5, 6, 8, 12, 13, 14], [0, 1, 2, 3]⟩ 6 ⟨[(0, .one (.c (.ptr 0 0))), (3, .one (.c (.ptr 1 0))), (5, .one (.c (.own 2 (.pair (.int .u32) (.int .u32)) out))), (6, .one (.c (.d (.bool done)))), (8, .one (.c (.ptr 3 0))), (12, .one (.c (.d (.sl (.pair (.int .u32) (.int .u32)) t12)))), (13, .one (.c (.d (.int .i64 t13)))), (14, .one (.c (.d (.int .i64 t14))))], [(2, some ⟨160, 0⟩)], [(0, [.d (.int .u32 x_0), .d (.int .i64 x_1), .d (.sl (.pair (.int .u32) (.int .u32)) x_2)]), (1, [.d (.int .u32 b_0), .d (.int .u32 b_1)]), (3, [.d (.int .u32 ((t12.getD t14.toNat (0, 0)).1)), .d (.int .u32 ((t12.getD t14.toNat (0, 0)).2))])], 4⟩ [FnOK Go.Proofs.Try.prog 91 (f91_serial_Less_in b_1 ((t12.getD t14.toNat (0, 0)).1)) (f91_serial_Less_out r660_0), r660_0 = false] (by kernel_rfl) ⟨(f91_serial_Less_ok b_1 ((t12.getD t14.toNat (0, 0)).1) r660_0 cr660_0), b660_e0, trivial⟩ ?_
          obtain ⟨r668_0, cr668_0, h⟩ := bindS h
          rcases iteS h with ⟨b668_e0, h⟩ | ⟨b668_e0, h⟩
          · refine At.step hm ht ⟨[(4, .call [] [] (f91_serial_Less_out r668_0))], [true], [], [0, 3, 5, 6, 8, 12, 13, 14], [0, 1, 2, 3]⟩ 7 ⟨[(0, .one (.c (.ptr 0 0))), (3, .one (.c (.ptr 1 0))), (5, .one (.c (.own 2 (.pair (.int .u32) (.int .u32)) out))), (6, .one (.c (.d (.bool done)))), (8, .one (.c (.ptr 3 0))), (12, .one (.c (.d (.sl (.pair (.int .u32) (.int .u32)) t12)))), (13, .one (.c (.d (.int .i64 t13)))), (14, .one (.c (.d (.int .i64 t14))))], [(2, some ⟨160, 0⟩)], [(0, [.d (.int .u32 x_0), .d (.int .i64 x_1), .d (.sl (.pair (.int .u32) (.int .u32)) x_2)]), (1, [.d (.int .u32 b_0), .d (.int .u32 b_1)]), (3, [.d (.int .u32 ((t12.getD t14.toNat (0, 0)).1)), .d (.int .u32 ((t12.getD t14.toNat (0, 0)).2))])], 4⟩ [FnOK Go.Proofs.Try.prog 91 (f91_serial_Less_in ((t12.getD t14.toNat (0, 0)).1) b_0) (f91_serial_Less_out r668_0), r668_0 = true] (by kernel_rfl) ⟨(f91_serial_Less_ok ((t12.getD t14.toNat (0, 0)).1) b_0 r668_0 cr668_0), b668_e0, trivial⟩ ?_
            refine At.step hm ht ⟨[], [], [], [0, 3, 5, 6, 8, 12, 13, 14], [0, 1, 2, 3]⟩ 8 ⟨[(0, .one (.c (.ptr 0 0))), (3, .one (.c (.ptr 1 0))), (5, .one (.c (.own 2 (.pair (.int .u32) (.int .u32)) out))), (6, .one (.c (.d (.bool done)))), (8, .one (.c (.ptr 3 0))), (12, .one (.c (.d (.sl (.pair (.int .u32) (.int .u32)) t12)))), (13, .one (.c (.d (.int .i64 t13)))), (14, .one (.c (.d (.int .i64 t14))))], [(2, some ⟨160, 0⟩)], [(0, [.d (.int .u32 x_0), .d (.int .i64 x_1), .d (.sl (.pair (.int .u32) (.int .u32)) x_2)]), (1, [.d (.int .u32 ((t12.getD t14.toNat (0, 0)).1)), .d (.int .u32 b_1)]), (3, [.d (.int .u32 ((t12.getD t14.toNat (0, 0)).1)), .d (.int .u32 ((t12.getD t14.toNat (0, 0)).2))])], 4⟩ [0 + 1 ≤ 2] (by kernel_rfl) ⟨(by decide), trivial⟩ ?_
            obtain ⟨r670_0, cr670_0, h⟩ := bindS h
            refine At.step hm ht ⟨[(4, .call [] [] (f128_serial_Max_out r670_0))], [], [], [0, 3, 5, 6, 12, 13, 14], [0, 1, 2]⟩ 16 ⟨[(0, .one (.c (.ptr 0 0))), (3, .one (.c (.ptr 1 0))), (5, .one (.c (.own 2 (.pair (.int .u32) (.int .u32)) out))), (6, .one (.c (.d (.bool done)))), (12, .one (.c (.d (.sl (.pair (.int .u32) (.int .u32)) t12)))), (13, .one (.c (.d (.int .i64 t13)))), (14, .one (.c (.d (.int .i64 t14))))], [(2, some ⟨160, 0⟩)], [(0, [.d (.int .u32 x_0), .d (.int .i64 x_1), .d (.sl (.pair (.int .u32) (.int .u32)) x_2)]), (1, [.d (.int .u32 ((t12.getD t14.toNat (0, 0)).1)), .d (.int .u32 r670_0)])], 3⟩ [FnOK Go.Proofs.Try.prog 128 (f128_serial_Max_in b_1 ((t12.getD t14.toNat (0, 0)).2)) (f128_serial_Max_out r670_0), 1 + 1 ≤ 2] (by kernel_rfl) ⟨(f128_serial_Max_ok b_1 ((t12.getD t14.toNat (0, 0)).2) r670_0 cr670_0), (by decide), trivial⟩ ?_
            refine At.step hm ht ⟨[], [], [], [0, 3, 5, 6, 12, 13, 14], [0, 1, 2]⟩ 4 ⟨[(0, .one (.c (.ptr 0 0))), (3, .one (.c (.ptr 1 0))), (5, .one (.c (.own 2 (.pair (.int .u32) (.int .u32)) out))), (6, .one (.c (.d (.bool done)))), (12, .one (.c (.d (.sl (.pair (.int .u32) (.int .u32)) t12)))), (13, .one (.c (.d (.int .i64 t13)))), (14, .one (.c (.d (.int .i64 (IntKind.wrap .i64 (t14 + 1))))))], [(2, some ⟨160, 0⟩)], [(0, [.d (.int .u32 x_0), .d (.int .i64 x_1), .d (.sl (.pair (.int .u32) (.int .u32)) x_2)]), (1, [.d (.int .u32 ((t12.getD t14.toNat (0, 0)).1)), .d (.int .u32 r670_0)])], 3⟩ [] (by kernel_rfl) trivial ?_
            exact ih out done t12 t13 (IntKind.wrap .i64 (t14 + 1)) x_0 x_1 x_2 ((t12.getD t14.toNat (0, 0)).1) r670_0 w h o hk
          · refine At.step hm ht ⟨[(4, .call [] [] (f91_serial_Less_out r668_0))], [false], [], [0, 3, 5, 6, 8, 12, 13, 14], [0, 1, 2, 3]⟩ 8 ⟨[(0, .one (.c (.ptr 0 0))), (3, .one (.c (.ptr 1 0))), (5, .one (.c (.own 2 (.pair (.int .u32) (.int .u32)) out))), (6, .one (.c (.d (.bool done)))), (8, .one (.c (.ptr 3 0))), (12, .one (.c (.d (.sl (.pair (.int .u32) (.int .u32)) t12)))), (13, .one (.c (.d (.int .i64 t13)))), (14, .one (.c (.d (.int .i64 t14))))], [(2, some ⟨160, 0⟩)], [(0, [.d (.int .u32 x_0), .d (.int .i64 x_1), .d (.sl (.pair (.int .u32) (.int .u32)) x_2)]), (1, [.d (.int .u32 b_0), .d (.int .u32 b_1)]), (3, [.d (.int .u32 ((t12.getD t14.toNat (0, 0)).1)), .d (.int .u32 ((t12.getD t14.toNat (0, 0)).2))])], 4⟩ [FnOK Go.Proofs.Try.prog 91 (f91_serial_Less_in ((t12.getD t14.toNat (0, 0)).1) b_0) (f91_serial_Less_out r668_0), r668_0 = false] (by kernel_rfl) ⟨(f91_serial_Less_ok ((t12.getD t14.toNat (0, 0)).1) b_0 r668_0 cr668_0), b668_e0, trivial⟩ ?_
            obtain ⟨r672_0, cr672_0, h⟩ := bindS h
            refine At.step hm ht ⟨[(4, .call [] [] (f128_serial_Max_out r672_0))], [], [], [0, 3, 5, 6, 12, 13, 14], [0, 1, 2]⟩ 16 ⟨[(0, .one (.c (.ptr 0 0))), (3, .one (.c (.ptr 1 0))), (5, .one (.c (.own 2 (.pair (.int .u32) (.int .u32)) out))), (6, .one (.c (.d (.bool done)))), (12, .one (.c (.d (.sl (.pair (.int .u32) (.int .u32)) t12)))), (13, .one (.c (.d (.int .i64 t13)))), (14, .one (.c (.d (.int .i64 t14))))], [(2, some ⟨160, 0⟩)], [(0, [.d (.int .u32 x_0), .d (.int .i64 x_1), .d (.sl (.pair (.int .u32) (.int .u32)) x_2)]), (1, [.d (.int .u32 b_0), .d (.int .u32 r672_0)])], 3⟩ [FnOK Go.Proofs.Try.prog 128 (f128_serial_Max_in b_1 ((t12.getD t14.toNat (0, 0)).2)) (f128_serial_Max_out r672_0), 1 + 1 ≤ 2] (by kernel_rfl) ⟨(f128_serial_Max_ok b_1 ((t12.getD t14.toNat (0, 0)).2) r672_0 cr672_0), (by decide), trivial⟩ ?_
            refine At.step hm ht ⟨[], [], [], [0, 3, 5, 6, 12, 13, 14], [0, 1, 2]⟩ 4 ⟨[(0, .one (.c (.ptr 0 0))), (3, .one (.c (.ptr 1 0))), (5, .one (.c (.own 2 (.pair (.int .u32) (.int .u32)) out))), (6, .one (.c (.d (.bool done)))), (12, .one (.c (.d (.sl (.pair (.int .u32) (.int .u32)) t12)))), (13, .one (.c (.d (.int .i64 t13)))), (14, .one (.c (.d (.int .i64 (IntKind.wrap .i64 (t14 + 1))))))], [(2, some ⟨160, 0⟩)], [(0, [.d (.int .u32 x_0), .d (.int .i64 x_1), .d (.sl (.pair (.int .u32) (.int .u32)) x_2)]), (1, [.d (.int .u32 b_0), .d (.int .u32 r672_0)])], 3⟩ [] (by kernel_rfl) trivial ?_
            exact ih out done t12 t13 (IntKind.wrap .i64 (t14 + 1)) x_0 x_1 x_2 b_0 r672_0 w h o hk
    · refine At.step hm ht ⟨[], [false], [], [0, 3, 5, 6], [0, 1, 2]⟩ 17 ⟨[(0, .one (.c (.ptr 0 0))), (3, .one (.c (.ptr 1 0))), (5, .one (.c (.own 2 (.pair (.int .u32) (.int .u32)) out))), (6, .one (.c (.d (.bool done))))], [(2, some ⟨160, 0⟩)], [(0, [.d (.int .u32 x_0), .d (.int .i64 x_1), .d (.sl (.pair (.int .u32) (.int .u32)) x_2)]), (1, [.d (.int .u32 b_0), .d (.int .u32 b_1)])], 3⟩ [(decide ((t14 : Int) < t13)) = false] (by kernel_rfl) ⟨b655_e0, trivial⟩ ?_
      have h := Option.some.inj h
      subst h
      exact hk
def f93_sack_Board_put_v2 (n : Nat) (b_0 : Int) (b_1 : Int) (x_0 : Int) (x_1 : Int) (x_2 : List (Int × Int)) : Option (Bool × Int × Int × List (Int × Int)) :=
  (f93_sack_Board_put_v2_L4 n [] false x_2 ((x_2.length : Nat) : Int) 0 x_0 x_1 x_2 b_0 b_1).bind fun w674 =>
  if (!w674.2.1) = true then
    if w674.1.length + [w674.2.2.2.2.2].length ≤ maxLen ∧ (w674.1.length + [w674.2.2.2.2.2].length) * 8 ≤ 140737488355328 then
    if (0 : Int) ≤ 0 ∧ 0 < ((((w674.1 ++ [w674.2.2.2.2.2])).length : Nat) : Int) then
    if (((((w674.1 ++ [w674.2.2.2.2.2]).getD 0 (0, 0)).1) : Int) == w674.2.2.1) = true then
      if (0 : Int) ≤ 0 ∧ 0 < ((((w674.1 ++ [w674.2.2.2.2.2])).length : Nat) : Int) then
      if cutOk (w674.1 ++ [w674.2.2.2.2.2]).length (some 1) none none then
      if (decide (((((((w674.1 ++ [w674.2.2.2.2.2]).take (w674.1 ++ [w674.2.2.2.2.2]).length).drop 1).length : Nat) : Int) : Int) > w674.2.2.2.1)) = true then
        some (false, ((w674.1 ++ [w674.2.2.2.2.2]).getD 0 (0, 0)).2, w674.2.2.2.1, w674.2.2.2.2.1)
      else
        (f94_sack_Block (((w674.1 ++ [w674.2.2.2.2.2]).take (w674.1 ++ [w674.2.2.2.2.2]).length).drop 1)).bind fun r683_0 =>
        some (true, ((w674.1 ++ [w674.2.2.2.2.2]).getD 0 (0, 0)).2, w674.2.2.2.1, r683_0)
      else none
      else none
    else
      if (decide (((((w674.1 ++ [w674.2.2.2.2.2]).length : Nat) : Int) : Int) > w674.2.2.2.1)) = true then
        some (false, w674.2.2.1, w674.2.2.2.1, w674.2.2.2.2.1)
      else
        (f94_sack_Block (w674.1 ++ [w674.2.2.2.2.2])).bind fun r687_0 =>
        some (true, w674.2.2.1, w674.2.2.2.1, r687_0)
    else none
    else none
  else
    if (0 : Int) ≤ 0 ∧ 0 < (((w674.1).length : Nat) : Int) then
    if ((((w674.1.getD 0 (0, 0)).1) : Int) == w674.2.2.1) = true then
      if (0 : Int) ≤ 0 ∧ 0 < (((w674.1).length : Nat) : Int) then
      if cutOk w674.1.length (some 1) none none then
      if (decide ((((((w674.1.take w674.1.length).drop 1).length : Nat) : Int) : Int) > w674.2.2.2.1)) = true then
        some (false, (w674.1.getD 0 (0, 0)).2, w674.2.2.2.1, w674.2.2.2.2.1)
      else
        (f94_sack_Block ((w674.1.take w674.1.length).drop 1)).bind fun r694_0 =>
        some (true, (w674.1.getD 0 (0, 0)).2, w674.2.2.2.1, r694_0)
      else none
      else none
    else
      if (decide ((((w674.1.length : Nat) : Int) : Int) > w674.2.2.2.1)) = true then
        some (false, w674.2.2.1, w674.2.2.2.1, w674.2.2.2.2.1)
      else
        (f94_sack_Block w674.1).bind fun r698_0 =>
        some (true, w674.2.2.1, w674.2.2.2.1, r698_0)
    else none
theorem f93_sack_Board_put_v2_ok (n : Nat) (b_0 : Int) (b_1 : Int) (x_0 : Int) (x_1 : Int) (x_2 : List (Int × Int)) (r : Bool × Int × Int × List (Int × Int)) (h : f93_sack_Board_put_v2 n b_0 b_1 x_0 x_1 x_2 = some r) : FnOK Go.Proofs.Try.prog 93 (f93_sack_Board_put_v2_in b_0 b_1 x_0 x_1 x_2) (f93_sack_Board_put_v2_out r) := by
  unfold f93_sack_Board_put_v2 at h
  refine At.fn (r := 0) Go.Proofs.Try.func93 rfl (by kernel_rfl) rfl rfl (by kernel_rfl) ?_
  show At Go.Proofs.Try.prog Go.Proofs.Try.f93 1 0 ⟨[(0, .one (.c (.ptr 0 0))), (1, .one (.agg [.d (.int .u32 b_0), .d (.int .u32 b_1)]))], [], [(0, [.d (.int .u32 x_0), .d (.int .i64 x_1), .d (.sl (.pair (.int .u32) (.int .u32)) x_2)])], 1⟩ _
  refine At.step hm ht ⟨[], [], [], [0, 3], [0, 1]⟩ 1 ⟨[(0, .one (.c (.ptr 0 0))), (3, .one (.c (.ptr 1 0)))], [], [(0, [.d (.int .u32 x_0), .d (.int .i64 x_1), .d (.sl (.pair (.int .u32) (.int .u32)) x_2)]), (1, [.d (.int .u32 b_0), .d (.int .u32 b_1)])], 2⟩ [] (by kernel_rfl) trivial ?_
  refine At.step hm ht ⟨[], [], [], [0, 3, 5], [0, 1]⟩ 2 ⟨[(0, .one (.c (.ptr 0 0))), (3, .one (.c (.ptr 1 0))), (5, .one (.c (.d (.sl .unit []))))], [], [(0, [.d (.int .u32 x_0), .d (.int .i64 x_1), .d (.sl (.pair (.int .u32) (.int .u32)) x_2)]), (1, [.d (.int .u32 b_0), .d (.int .u32 b_1)])], 2⟩ [] (by kernel_rfl) trivial ?_
  refine At.step hm ht ⟨[], [], [], [0, 3, 5, 6], [0, 1]⟩ 3 ⟨[(0, .one (.c (.ptr 0 0))), (3, .one (.c (.ptr 1 0))), (5, .one (.c (.d (.sl .unit [])))), (6, .one (.c (.d (.bool false))))], [], [(0, [.d (.int .u32 x_0), .d (.int .i64 x_1), .d (.sl (.pair (.int .u32) (.int .u32)) x_2)]), (1, [.d (.int .u32 b_0), .d (.int .u32 b_1)])], 2⟩ [] (by kernel_rfl) trivial ?_
  refine At.step hm ht ⟨[], [], [.nil false 5 0 (.pair (.int .u32) (.int .u32)) (some 160)], [0, 3, 5, 6, 12, 13, 14], [0, 1, 8]⟩ 4 ⟨[(0, .one (.c (.ptr 0 0))), (3, .one (.c (.ptr 1 0))), (5, .one (.c (.own 2 (.pair (.int .u32) (.int .u32)) []))), (6, .one (.c (.d (.bool false)))), (12, .one (.c (.d (.sl (.pair (.int .u32) (.int .u32)) x_2)))), (13, .one (.c (.d (.int .i64 ((x_2.length : Nat) : Int))))), (14, .one (.c (.d (.int .i64 0))))], [(2, some ⟨160, 0⟩)], [(0, [.d (.int .u32 x_0), .d (.int .i64 x_1), .d (.sl (.pair (.int .u32) (.int .u32)) x_2)]), (1, [.d (.int .u32 b_0), .d (.int .u32 b_1)])], 3⟩ [] (by kernel_rfl) trivial ?_
  obtain ⟨w674, cw674, h⟩ := bindS h
  refine f93_sack_Board_put_v2_L4_ok n [] false x_2 ((x_2.length : Nat) : Int) 0 x_0 x_1 x_2 b_0 b_1 w674 cw674 _ ?_
  show At Go.Proofs.Try.prog Go.Proofs.Try.f93 1 17 ⟨[(0, .one (.c (.ptr 0 0))), (3, .one (.c (.ptr 1 0))), (5, .one (.c (.own 2 (.pair (.int .u32) (.int .u32)) w674.1))), (6, .one (.c (.d (.bool w674.2.1))))], [(2, some ⟨160, 0⟩)], [(0, [.d (.int .u32 w674.2.2.1), .d (.int .i64 w674.2.2.2.1), .d (.sl (.pair (.int .u32) (.int .u32)) w674.2.2.2.2.1)]), (1, [.d (.int .u32 w674.2.2.2.2.2.1), .d (.int .u32 w674.2.2.2.2.2.2)])], 3⟩ _
  rcases iteS h with ⟨b676_e0, h⟩ | ⟨b676_e0, h⟩
  · refine At.step hm ht ⟨[], [true], [], [0, 3, 5], [0, 1, 2]⟩ 18 ⟨[(0, .one (.c (.ptr 0 0))), (3, .one (.c (.ptr 1 0))), (5, .one (.c (.own 2 (.pair (.int .u32) (.int .u32)) w674.1)))], [(2, some ⟨160, 0⟩)], [(0, [.d (.int .u32 w674.2.2.1), .d (.int .i64 w674.2.2.2.1), .d (.sl (.pair (.int .u32) (.int .u32)) w674.2.2.2.2.1)]), (1, [.d (.int .u32 w674.2.2.2.2.2.1), .d (.int .u32 w674.2.2.2.2.2.2)])], 3⟩ [(!w674.2.1) = true] (by kernel_rfl) ⟨b676_e0, trivial⟩ ?_
    obtain ⟨g677_0, h⟩ := ifS h
    refine At.step hm ht ⟨[], [], [], [0, 5], [0, 6]⟩ 19 ⟨[(0, .one (.c (.ptr 0 0))), (5, .one (.c (.own 1 (.pair (.int .u32) (.int .u32)) (w674.1 ++ [w674.2.2.2.2.2]))))], [(1, some ⟨160, 0⟩)], [(0, [.d (.int .u32 w674.2.2.1), .d (.int .i64 w674.2.2.2.1), .d (.sl (.pair (.int .u32) (.int .u32)) w674.2.2.2.2.1)])], 2⟩ [w674.1.length + [w674.2.2.2.2.2].length ≤ maxLen ∧ (w674.1.length + [w674.2.2.2.2.2].length) * 8 ≤ 140737488355328] (by kernel_rfl) ⟨g677_0, trivial⟩ ?_
    obtain ⟨g678_0, h⟩ := ifS h
    rcases iteS h with ⟨b678_e0, h⟩ | ⟨b678_e0, h⟩
    · refine At.step hm ht ⟨[], [true], [], [0, 5], [0, 1]⟩ 20 ⟨[(0, .one (.c (.ptr 0 0))), (5, .one (.c (.own 1 (.pair (.int .u32) (.int .u32)) (w674.1 ++ [w674.2.2.2.2.2]))))], [(1, some ⟨160, 0⟩)], [(0, [.d (.int .u32 w674.2.2.1), .d (.int .i64 w674.2.2.2.1), .d (.sl (.pair (.int .u32) (.int .u32)) w674.2.2.2.2.1)])], 2⟩ [(0 : Int) ≤ 0 ∧ 0 < ((((w674.1 ++ [w674.2.2.2.2.2])).length : Nat) : Int), (((((w674.1 ++ [w674.2.2.2.2.2]).getD 0 (0, 0)).1) : Int) == w674.2.2.1) = true] (by kernel_rfl) ⟨g678_0, b678_e0, trivial⟩ ?_
      obtain ⟨g679_0, h⟩ := ifS h
      refine At.step hm ht ⟨[], [], [], [0, 5], [0, 1]⟩ 21 ⟨[(0, .one (.c (.ptr 0 0))), (5, .one (.c (.own 1 (.pair (.int .u32) (.int .u32)) (w674.1 ++ [w674.2.2.2.2.2]))))], [(1, some ⟨160, 0⟩)], [(0, [.d (.int .u32 (((w674.1 ++ [w674.2.2.2.2.2]).getD 0 (0, 0)).2)), .d (.int .i64 w674.2.2.2.1), .d (.sl (.pair (.int .u32) (.int .u32)) w674.2.2.2.2.1)])], 2⟩ [(0 : Int) ≤ 0 ∧ 0 < ((((w674.1 ++ [w674.2.2.2.2.2])).length : Nat) : Int), 0 + 1 ≤ 3] (by kernel_rfl) ⟨g679_0, (by decide), trivial⟩ ?_
      obtain ⟨g680_0, h⟩ := ifS h
      refine At.step hm ht ⟨[], [], [], [0, 5], [0]⟩ 22 ⟨[(0, .one (.c (.ptr 0 0))), (5, .one (.c (.d (.sl (.pair (.int .u32) (.int .u32)) (((w674.1 ++ [w674.2.2.2.2.2]).take (w674.1 ++ [w674.2.2.2.2.2]).length).drop 1)))))], [], [(0, [.d (.int .u32 (((w674.1 ++ [w674.2.2.2.2.2]).getD 0 (0, 0)).2)), .d (.int .i64 w674.2.2.2.1), .d (.sl (.pair (.int .u32) (.int .u32)) w674.2.2.2.2.1)])], 1⟩ [cutOk (w674.1 ++ [w674.2.2.2.2.2]).length (some 1) none none] (by kernel_rfl) ⟨g680_0, trivial⟩ ?_
      rcases iteS h with ⟨b681_e0, h⟩ | ⟨b681_e0, h⟩
      · refine At.step hm ht ⟨[], [true], [], [], [0]⟩ 23 ⟨[], [], [(0, [.d (.int .u32 (((w674.1 ++ [w674.2.2.2.2.2]).getD 0 (0, 0)).2)), .d (.int .i64 w674.2.2.2.1), .d (.sl (.pair (.int .u32) (.int .u32)) w674.2.2.2.2.1)])], 1⟩ [(decide (((((((w674.1 ++ [w674.2.2.2.2.2]).take (w674.1 ++ [w674.2.2.2.2.2]).length).drop 1).length : Nat) : Int) : Int) > w674.2.2.2.1)) = true] (by kernel_rfl) ⟨b681_e0, trivial⟩ ?_
        have h := Option.some.inj h
        subst h
        exact At.fin hm ht ⟨[], [], [], [4], [0]⟩ [] (by kernel_rfl) trivial
      · refine At.step hm ht ⟨[], [false], [], [0, 5], [0]⟩ 24 ⟨[(0, .one (.c (.ptr 0 0))), (5, .one (.c (.d (.sl (.pair (.int .u32) (.int .u32)) (((w674.1 ++ [w674.2.2.2.2.2]).take (w674.1 ++ [w674.2.2.2.2.2]).length).drop 1)))))], [], [(0, [.d (.int .u32 (((w674.1 ++ [w674.2.2.2.2.2]).getD 0 (0, 0)).2)), .d (.int .i64 w674.2.2.2.1), .d (.sl (.pair (.int .u32) (.int .u32)) w674.2.2.2.2.1)])], 1⟩ [(decide (((((((w674.1 ++ [w674.2.2.2.2.2]).take (w674.1 ++ [w674.2.2.2.2.2]).length).drop 1).length : Nat) : Int) : Int) > w674.2.2.2.1)) = false] (by kernel_rfl) ⟨b681_e0, trivial⟩ ?_
        obtain ⟨r683_0, cr683_0, h⟩ := bindS h
        refine At.step hm ht ⟨[(2, .call [] [] (f94_sack_Block_out r683_0))], [], [], [], [0]⟩ 25 ⟨[], [], [(0, [.d (.int .u32 (((w674.1 ++ [w674.2.2.2.2.2]).getD 0 (0, 0)).2)), .d (.int .i64 w674.2.2.2.1), .d (.sl (.pair (.int .u32) (.int .u32)) r683_0)])], 1⟩ [FnOK Go.Proofs.Try.prog 94 (f94_sack_Block_in (((w674.1 ++ [w674.2.2.2.2.2]).take (w674.1 ++ [w674.2.2.2.2.2]).length).drop 1)) (f94_sack_Block_out r683_0), 2 + 1 ≤ 3] (by kernel_rfl) ⟨(f94_sack_Block_ok (((w674.1 ++ [w674.2.2.2.2.2]).take (w674.1 ++ [w674.2.2.2.2.2]).length).drop 1) r683_0 cr683_0), (by decide), trivial⟩ ?_
        have h := Option.some.inj h
        subst h
        exact At.fin hm ht ⟨[], [], [], [4], [0]⟩ [] (by kernel_rfl) trivial
    · refine At.step hm ht ⟨[], [false], [], [0, 5], [0, 1]⟩ 22 ⟨[(0, .one (.c (.ptr 0 0))), (5, .one (.c (.own 1 (.pair (.int .u32) (.int .u32)) (w674.1 ++ [w674.2.2.2.2.2]))))], [(1, some ⟨160, 0⟩)], [(0, [.d (.int .u32 w674.2.2.1), .d (.int .i64 w674.2.2.2.1), .d (.sl (.pair (.int .u32) (.int .u32)) w674.2.2.2.2.1)])], 2⟩ [(0 : Int) ≤ 0 ∧ 0 < ((((w674.1 ++ [w674.2.2.2.2.2])).length : Nat) : Int), (((((w674.1 ++ [w674.2.2.2.2.2]).getD 0 (0, 0)).1) : Int) == w674.2.2.1) = false] (by kernel_rfl) ⟨g678_0, b678_e0, trivial⟩ ?_
      rcases iteS h with ⟨b685_e0, h⟩ | ⟨b685_e0, h⟩
      · refine At.step hm ht ⟨[], [true], [], [], [0]⟩ 23 ⟨[], [], [(0, [.d (.int .u32 w674.2.2.1), .d (.int .i64 w674.2.2.2.1), .d (.sl (.pair (.int .u32) (.int .u32)) w674.2.2.2.2.1)])], 1⟩ [(decide (((((w674.1 ++ [w674.2.2.2.2.2]).length : Nat) : Int) : Int) > w674.2.2.2.1)) = true] (by kernel_rfl) ⟨b685_e0, trivial⟩ ?_
        have h := Option.some.inj h
        subst h
        exact At.fin hm ht ⟨[], [], [], [4], [0]⟩ [] (by kernel_rfl) trivial
      · refine At.step hm ht ⟨[], [false], [], [0, 5], [0, 1]⟩ 24 ⟨[(0, .one (.c (.ptr 0 0))), (5, .one (.c (.own 1 (.pair (.int .u32) (.int .u32)) (w674.1 ++ [w674.2.2.2.2.2]))))], [(1, some ⟨160, 0⟩)], [(0, [.d (.int .u32 w674.2.2.1), .d (.int .i64 w674.2.2.2.1), .d (.sl (.pair (.int .u32) (.int .u32)) w674.2.2.2.2.1)])], 2⟩ [(decide (((((w674.1 ++ [w674.2.2.2.2.2]).length : Nat) : Int) : Int) > w674.2.2.2.1)) = false] (by kernel_rfl) ⟨b685_e0, trivial⟩ ?_
        obtain ⟨r687_0, cr687_0, h⟩ := bindS h
        refine At.step hm ht ⟨[(2, .call [] [] (f94_sack_Block_out r687_0))], [], [], [], [0]⟩ 25 ⟨[], [], [(0, [.d (.int .u32 w674.2.2.1), .d (.int .i64 w674.2.2.2.1), .d (.sl (.pair (.int .u32) (.int .u32)) r687_0)])], 1⟩ [FnOK Go.Proofs.Try.prog 94 (f94_sack_Block_in (w674.1 ++ [w674.2.2.2.2.2])) (f94_sack_Block_out r687_0), 2 + 1 ≤ 3] (by kernel_rfl) ⟨(f94_sack_Block_ok (w674.1 ++ [w674.2.2.2.2.2]) r687_0 cr687_0), (by decide), trivial⟩ ?_
        have h := Option.some.inj h
        subst h
        exact At.fin hm ht ⟨[], [], [], [4], [0]⟩ [] (by kernel_rfl) trivial
  · refine At.step hm ht ⟨[], [false], [], [0, 5], [0, 2]⟩ 19 ⟨[(0, .one (.c (.ptr 0 0))), (5, .one (.c (.own 1 (.pair (.int .u32) (.int .u32)) w674.1)))], [(1, some ⟨160, 0⟩)], [(0, [.d (.int .u32 w674.2.2.1), .d (.int .i64 w674.2.2.2.1), .d (.sl (.pair (.int .u32) (.int .u32)) w674.2.2.2.2.1)])], 2⟩ [(!w674.2.1) = false] (by kernel_rfl) ⟨b676_e0, trivial⟩ ?_
    obtain ⟨g689_0, h⟩ := ifS h
    rcases iteS h with ⟨b689_e0, h⟩ | ⟨b689_e0, h⟩
    · refine At.step hm ht ⟨[], [true], [], [0, 5], [0, 1]⟩ 20 ⟨[(0, .one (.c (.ptr 0 0))), (5, .one (.c (.own 1 (.pair (.int .u32) (.int .u32)) w674.1)))], [(1, some ⟨160, 0⟩)], [(0, [.d (.int .u32 w674.2.2.1), .d (.int .i64 w674.2.2.2.1), .d (.sl (.pair (.int .u32) (.int .u32)) w674.2.2.2.2.1)])], 2⟩ [(0 : Int) ≤ 0 ∧ 0 < (((w674.1).length : Nat) : Int), ((((w674.1.getD 0 (0, 0)).1) : Int) == w674.2.2.1) = true] (by kernel_rfl) ⟨g689_0, b689_e0, trivial⟩ ?_
      obtain ⟨g690_0, h⟩ := ifS h
      refine At.step hm ht ⟨[], [], [], [0, 5], [0, 1]⟩ 21 ⟨[(0, .one (.c (.ptr 0 0))), (5, .one (.c (.own 1 (.pair (.int .u32) (.int .u32)) w674.1)))], [(1, some ⟨160, 0⟩)], [(0, [.d (.int .u32 ((w674.1.getD 0 (0, 0)).2)), .d (.int .i64 w674.2.2.2.1), .d (.sl (.pair (.int .u32) (.int .u32)) w674.2.2.2.2.1)])], 2⟩ [(0 : Int) ≤ 0 ∧ 0 < (((w674.1).length : Nat) : Int), 0 + 1 ≤ 3] (by kernel_rfl) ⟨g690_0, (by decide), trivial⟩ ?_
      obtain ⟨g691_0, h⟩ := ifS h
      refine At.step hm ht ⟨[], [], [], [0, 5], [0]⟩ 22 ⟨[(0, .one (.c (.ptr 0 0))), (5, .one (.c (.d (.sl (.pair (.int .u32) (.int .u32)) ((w674.1.take w674.1.length).drop 1)))))], [], [(0, [.d (.int .u32 ((w674.1.getD 0 (0, 0)).2)), .d (.int .i64 w674.2.2.2.1), .d (.sl (.pair (.int .u32) (.int .u32)) w674.2.2.2.2.1)])], 1⟩ [cutOk w674.1.length (some 1) none none] (by kernel_rfl) ⟨g691_0, trivial⟩ ?_
      rcases iteS h with ⟨b692_e0, h⟩ | ⟨b692_e0, h⟩
      · refine At.step hm ht ⟨[], [true], [], [], [0]⟩ 23 ⟨[], [], [(0, [.d (.int .u32 ((w674.1.getD 0 (0, 0)).2)), .d (.int .i64 w674.2.2.2.1), .d (.sl (.pair (.int .u32) (.int .u32)) w674.2.2.2.2.1)])], 1⟩ [(decide ((((((w674.1.take w674.1.length).drop 1).length : Nat) : Int) : Int) > w674.2.2.2.1)) = true] (by kernel_rfl) ⟨b692_e0, trivial⟩ ?_
        have h := Option.some.inj h
        subst h
        exact At.fin hm ht ⟨[], [], [], [4], [0]⟩ [] (by kernel_rfl) trivial
      · refine At.step hm ht ⟨[], [false], [], [0, 5], [0]⟩ 24 ⟨[(0, .one (.c (.ptr 0 0))), (5, .one (.c (.d (.sl (.pair (.int .u32) (.int .u32)) ((w674.1.take w674.1.length).drop 1)))))], [], [(0, [.d (.int .u32 ((w674.1.getD 0 (0, 0)).2)), .d (.int .i64 w674.2.2.2.1), .d (.sl (.pair (.int .u32) (.int .u32)) w674.2.2.2.2.1)])], 1⟩ [(decide ((((((w674.1.take w674.1.length).drop 1).length : Nat) : Int) : Int) > w674.2.2.2.1)) = false] (by kernel_rfl) ⟨b692_e0, trivial⟩ ?_
        obtain ⟨r694_0, cr694_0, h⟩ := bindS h
        refine At.step hm ht ⟨[(2, .call [] [] (f94_sack_Block_out r694_0))], [], [], [], [0]⟩ 25 ⟨[], [], [(0, [.d (.int .u32 ((w674.1.getD 0 (0, 0)).2)), .d (.int .i64 w674.2.2.2.1), .d (.sl (.pair (.int .u32) (.int .u32)) r694_0)])], 1⟩ [FnOK Go.Proofs.Try.prog 94 (f94_sack_Block_in ((w674.1.take w674.1.length).drop 1)) (f94_sack_Block_out r694_0), 2 + 1 ≤ 3] (by kernel_rfl) ⟨(f94_sack_Block_ok ((w674.1.take w674.1.length).drop 1) r694_0 cr694_0), (by decide), trivial⟩ ?_
        have h := Option.some.inj h
        subst h
        exact At.fin hm ht ⟨[], [], [], [4], [0]⟩ [] (by kernel_rfl) trivial
    · refine At.step hm ht ⟨[], [false], [], [0, 5], [0, 1]⟩ 22 ⟨[(0, .one (.c (.ptr 0 0))), (5, .one (.c (.own 1 (.pair (.int .u32) (.int .u32)) w674.1)))], [(1, some ⟨160, 0⟩)], [(0, [.d (.int .u32 w674.2.2.1), .d (.int .i64 w674.2.2.2.1), .d (.sl (.pair (.int .u32) (.int .u32)) w674.2.2.2.2.1)])], 2⟩ [(0 : Int) ≤ 0 ∧ 0 < (((w674.1).length : Nat) : Int), ((((w674.1.getD 0 (0, 0)).1) : Int) == w674.2.2.1) = false] (by kernel_rfl) ⟨g689_0, b689_e0, trivial⟩ ?_
      rcases iteS h with ⟨b696_e0, h⟩ | ⟨b696_e0, h⟩
      · refine At.step hm ht ⟨[], [true], [], [], [0]⟩ 23 ⟨[], [], [(0, [.d (.int .u32 w674.2.2.1), .d (.int .i64 w674.2.2.2.1), .d (.sl (.pair (.int .u32) (.int .u32)) w674.2.2.2.2.1)])], 1⟩ [(decide ((((w674.1.length : Nat) : Int) : Int) > w674.2.2.2.1)) = true] (by kernel_rfl) ⟨b696_e0, trivial⟩ ?_
        have h := Option.some.inj h
        subst h
        exact At.fin hm ht ⟨[], [], [], [4], [0]⟩ [] (by kernel_rfl) trivial
      · refine At.step hm ht ⟨[], [false], [], [0, 5], [0, 1]⟩ 24 ⟨[(0, .one (.c (.ptr 0 0))), (5, .one (.c (.own 1 (.pair (.int .u32) (.int .u32)) w674.1)))], [(1, some ⟨160, 0⟩)], [(0, [.d (.int .u32 w674.2.2.1), .d (.int .i64 w674.2.2.2.1), .d (.sl (.pair (.int .u32) (.int .u32)) w674.2.2.2.2.1)])], 2⟩ [(decide ((((w674.1.length : Nat) : Int) : Int) > w674.2.2.2.1)) = false] (by kernel_rfl) ⟨b696_e0, trivial⟩ ?_
        obtain ⟨r698_0, cr698_0, h⟩ := bindS h
        refine At.step hm ht ⟨[(2, .call [] [] (f94_sack_Block_out r698_0))], [], [], [], [0]⟩ 25 ⟨[], [], [(0, [.d (.int .u32 w674.2.2.1), .d (.int .i64 w674.2.2.2.1), .d (.sl (.pair (.int .u32) (.int .u32)) r698_0)])], 1⟩ [FnOK Go.Proofs.Try.prog 94 (f94_sack_Block_in w674.1) (f94_sack_Block_out r698_0), 2 + 1 ≤ 3] (by kernel_rfl) ⟨(f94_sack_Block_ok w674.1 r698_0 cr698_0), (by decide), trivial⟩ ?_
        have h := Option.some.inj h
        subst h
        exact At.fin hm ht ⟨[], [], [], [4], [0]⟩ [] (by kernel_rfl) trivial
end Go.Proofs.YtjoibacjpapncaaF31
