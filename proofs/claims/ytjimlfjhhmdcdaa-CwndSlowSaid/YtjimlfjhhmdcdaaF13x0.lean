/- What the functions compute, and that they do: printed by a program of this session (zgen.py), proved by Zed. -/
import Derived.Test.YtjimlfjhhmdcdaaProg
import Derived.Test.YtjimlfjhhmdcdaaZedY
namespace Go.Proofs.YtjimlfjhhmdcdaaF13
open Go Zed
set_option maxRecDepth 100000
set_option linter.unusedVariables false
def tab : Tab := [(3, ⟨.int .i64, 1, 8, [.int .i64 0], some (.int .i64), none⟩), (61, ⟨.slice 72, 1, 24, [.sl .unit []], some (.slice (.pair (.int .i64) (.int .i64))), none⟩), (64, ⟨.slice 109, 1, 24, [.sl .unit []], some (.slice (.pair (.int .i64) (.int .i64))), none⟩), (67, ⟨.ptr 112, 1, 8, [.nilP], none, none⟩), (72, ⟨.struct [(0, 3), (1, 3)], 2, 16, [.int .i64 0, .int .i64 0], some (.pair (.int .i64) (.int .i64)), some [(0, 3), (1, 3)]⟩), (73, ⟨.slice 78, 1, 24, [.sl .unit []], some (.slice (.pair (.int .i64) (.pair (.int .i64) (.slice (.pair (.int .i64) (.int .i64)))))), none⟩), (75, ⟨.struct [(0, 3), (1, 3), (2, 3), (3, 3), (4, 3)], 5, 40, [.int .i64 0, .int .i64 0, .int .i64 0, .int .i64 0, .int .i64 0], some (.pair (.int .i64) (.pair (.int .i64) (.pair (.int .i64) (.pair (.int .i64) (.int .i64))))), some [(0, 3), (1, 3), (2, 3), (3, 3), (4, 3)]⟩), (78, ⟨.struct [(0, 3), (1, 3), (2, 61)], 3, 40, [.int .i64 0, .int .i64 0, .sl .unit []], some (.pair (.int .i64) (.pair (.int .i64) (.slice (.pair (.int .i64) (.int .i64))))), some [(0, 3), (1, 3), (2, 61)]⟩), (109, ⟨.struct [(0, 3), (1, 3)], 2, 16, [.int .i64 0, .int .i64 0], some (.pair (.int .i64) (.int .i64)), some [(0, 3), (1, 3)]⟩), (112, ⟨.struct [(0, 3), (1, 3), (2, 3), (3, 3), (4, 3)], 5, 40, [.int .i64 0, .int .i64 0, .int .i64 0, .int .i64 0, .int .i64 0], some (.pair (.int .i64) (.pair (.int .i64) (.pair (.int .i64) (.pair (.int .i64) (.int .i64))))), some [(0, 3), (1, 3), (2, 3), (3, 3), (4, 3)]⟩)]
theorem ht : TabOk Go.Proofs.Try.prog tab := tabOk_of (ts := [3, 61, 64, 67, 72, 73, 75, 78, 109, 112]) (by kernel_rfl)
theorem hm : Go.Proofs.Try.prog.follows .mixedOrders = true := by kernel_rfl
/-! brougham/cwnd.first -/
def f69_cwnd_first_in (l : List (Int × Int)) : Inn := ⟨[.c (.d (.sl (.pair (.int .i64) (.int .i64)) l))], [], [], 0⟩
def f69_cwnd_first_out (r : List (Int × Int)) : Out := ⟨.one (.c (.d (.sl (.pair (.int .i64) (.int .i64)) r))), [], [], 0⟩
def f69_cwnd_first (l : List (Int × Int)) : Option (List (Int × Int)) :=
  if cutOk l.length none (some (if 64 < ((l.length : Nat) : Int) then 64 else ((l.length : Nat) : Int))) none then
  some (l.take (if 64 < ((l.length : Nat) : Int) then 64 else ((l.length : Nat) : Int)).toNat)
  else none
theorem f69_cwnd_first_ok (l : List (Int × Int)) (r : List (Int × Int)) (h : f69_cwnd_first l = some r) : FnOK Go.Proofs.Try.prog 69 (f69_cwnd_first_in l) (f69_cwnd_first_out r) := by
  unfold f69_cwnd_first at h
  refine At.fn (r := 0) Go.Proofs.Try.func69 rfl (by kernel_rfl) rfl rfl (by kernel_rfl) ?_
  show At Go.Proofs.Try.prog Go.Proofs.Try.f69 0 0 ⟨[(0, .one (.c (.d (.sl (.pair (.int .i64) (.int .i64)) l))))], [], [], 0⟩ _
  refine At.step hm ht ⟨[], [], [], [0], []⟩ 1 ⟨[(0, .one (.c (.d (.sl (.pair (.int .i64) (.int .i64)) l))))], [], [], 0⟩ [] (by kernel_rfl) trivial ?_
  obtain ⟨g9_0, h⟩ := ifS h
  have h := Option.some.inj h
  subst h
  exact At.fin hm ht ⟨[], [], [], [2], []⟩ [cutOk l.length none (some (if 64 < ((l.length : Nat) : Int) then 64 else ((l.length : Nat) : Int))) none] (by kernel_rfl) ⟨g9_0, trivial⟩
/-! brougham/cwnd.Alpha -/
def f38_cwnd_Alpha_in (l : List (Int × Int)) : Inn := ⟨[.c (.d (.sl (.pair (.int .i64) (.int .i64)) l))], [], [], 0⟩
def f38_cwnd_Alpha_out (r : Int) : Out := ⟨.one (.c (.d (.int .i64 r))), [], [], 0⟩
def f38_cwnd_Alpha_L3 : Nat → Int → Int → Int → (List (Int × Int)) → Int → Int → Option (Int × Int × Int)
  | 0, _, _, _, _, _, _ => none
  | n + 1, total, best, sum, t11, t12, t13 =>
    if (decide ((t13 : Int) < t12)) = true then
      if (0 : Int) ≤ t13 ∧ t13 < (((t11).length : Nat) : Int) then
      if ((IntKind.wrap .i64 ((if 4096 < (if ((t11.getD t13.toNat (0, 0)).2) < 1 then 1 else ((t11.getD t13.toNat (0, 0)).2)) then 4096 else (if ((t11.getD t13.toNat (0, 0)).2) < 1 then 1 else ((t11.getD t13.toNat (0, 0)).2))) * (if 4096 < (if ((t11.getD t13.toNat (0, 0)).2) < 1 then 1 else ((t11.getD t13.toNat (0, 0)).2)) then 4096 else (if ((t11.getD t13.toNat (0, 0)).2) < 1 then 1 else ((t11.getD t13.toNat (0, 0)).2))))) : Int) ≠ 0 then
      if ((if 4096 < (if ((t11.getD t13.toNat (0, 0)).2) < 1 then 1 else ((t11.getD t13.toNat (0, 0)).2)) then 4096 else (if ((t11.getD t13.toNat (0, 0)).2) < 1 then 1 else ((t11.getD t13.toNat (0, 0)).2))) : Int) ≠ 0 then
      f38_cwnd_Alpha_L3 n (IntKind.wrap .i64 (total + (if 65536 < (if ((t11.getD t13.toNat (0, 0)).1) < 1 then 1 else ((t11.getD t13.toNat (0, 0)).1)) then 65536 else (if ((t11.getD t13.toNat (0, 0)).1) < 1 then 1 else ((t11.getD t13.toNat (0, 0)).1))))) (if best < (IntKind.wrap .i64 (Int.tdiv (IntKind.wrap .i64 ((if 65536 < (if ((t11.getD t13.toNat (0, 0)).1) < 1 then 1 else ((t11.getD t13.toNat (0, 0)).1)) then 65536 else (if ((t11.getD t13.toNat (0, 0)).1) < 1 then 1 else ((t11.getD t13.toNat (0, 0)).1))) * 1024)) (IntKind.wrap .i64 ((if 4096 < (if ((t11.getD t13.toNat (0, 0)).2) < 1 then 1 else ((t11.getD t13.toNat (0, 0)).2)) then 4096 else (if ((t11.getD t13.toNat (0, 0)).2) < 1 then 1 else ((t11.getD t13.toNat (0, 0)).2))) * (if 4096 < (if ((t11.getD t13.toNat (0, 0)).2) < 1 then 1 else ((t11.getD t13.toNat (0, 0)).2)) then 4096 else (if ((t11.getD t13.toNat (0, 0)).2) < 1 then 1 else ((t11.getD t13.toNat (0, 0)).2))))))) then (IntKind.wrap .i64 (Int.tdiv (IntKind.wrap .i64 ((if 65536 < (if ((t11.getD t13.toNat (0, 0)).1) < 1 then 1 else ((t11.getD t13.toNat (0, 0)).1)) then 65536 else (if ((t11.getD t13.toNat (0, 0)).1) < 1 then 1 else ((t11.getD t13.toNat (0, 0)).1))) * 1024)) (IntKind.wrap .i64 ((if 4096 < (if ((t11.getD t13.toNat (0, 0)).2) < 1 then 1 else ((t11.getD t13.toNat (0, 0)).2)) then 4096 else (if ((t11.getD t13.toNat (0, 0)).2) < 1 then 1 else ((t11.getD t13.toNat (0, 0)).2))) * (if 4096 < (if ((t11.getD t13.toNat (0, 0)).2) < 1 then 1 else ((t11.getD t13.toNat (0, 0)).2)) then 4096 else (if ((t11.getD t13.toNat (0, 0)).2) < 1 then 1 else ((t11.getD t13.toNat (0, 0)).2))))))) else best) (IntKind.wrap .i64 (sum + (IntKind.wrap .i64 (Int.tdiv (IntKind.wrap .i64 ((if 65536 < (if ((t11.getD t13.toNat (0, 0)).1) < 1 then 1 else ((t11.getD t13.toNat (0, 0)).1)) then 65536 else (if ((t11.getD t13.toNat (0, 0)).1) < 1 then 1 else ((t11.getD t13.toNat (0, 0)).1))) * 1024)) (if 4096 < (if ((t11.getD t13.toNat (0, 0)).2) < 1 then 1 else ((t11.getD t13.toNat (0, 0)).2)) then 4096 else (if ((t11.getD t13.toNat (0, 0)).2) < 1 then 1 else ((t11.getD t13.toNat (0, 0)).2))))))) t11 t12 (IntKind.wrap .i64 (t13 + 1))
      else none
      else none
      else none
    else
      some ((total, best, sum))
def f38_cwnd_Alpha_L3_k (e : Int × Int × Int) (o : Out) : Prop := At Go.Proofs.Try.prog Go.Proofs.Try.f38 0 10 ⟨[(3, .one (.c (.d (.int .i64 e.1)))), (4, .one (.c (.d (.int .i64 e.2.1)))), (5, .one (.c (.d (.int .i64 e.2.2))))], [], [], 0⟩ o
theorem f38_cwnd_Alpha_L3_ok (n : Nat) : ∀ (total : Int) (best : Int) (sum : Int) (t11 : List (Int × Int)) (t12 : Int) (t13 : Int) (w : Int × Int × Int) (h : f38_cwnd_Alpha_L3 n total best sum t11 t12 t13 = some w) (o : Out) (hk : f38_cwnd_Alpha_L3_k w o), At Go.Proofs.Try.prog Go.Proofs.Try.f38 0 3 ⟨[(3, .one (.c (.d (.int .i64 total)))), (4, .one (.c (.d (.int .i64 best)))), (5, .one (.c (.d (.int .i64 sum)))), (11, .one (.c (.d (.sl (.pair (.int .i64) (.int .i64)) t11)))), (12, .one (.c (.d (.int .i64 t12)))), (13, .one (.c (.d (.int .i64 t13))))], [], [], 0⟩ o := by
  induction n with
  | zero => intro total best sum t11 t12 t13 w h; rw [f38_cwnd_Alpha_L3] at h; cases h
  | succ n ih =>
    intro total best sum t11 t12 t13 w h o hk
    rw [f38_cwnd_Alpha_L3] at h
    rcases iteS h with ⟨b10_e0, h⟩ | ⟨b10_e0, h⟩
    · refine At.step hm ht ⟨[], [true], [], [3, 4, 5, 11, 12, 13], []⟩ 4 ⟨[(3, .one (.c (.d (.int .i64 total)))), (4, .one (.c (.d (.int .i64 best)))), (5, .one (.c (.d (.int .i64 sum)))), (11, .one (.c (.d (.sl (.pair (.int .i64) (.int .i64)) t11)))), (12, .one (.c (.d (.int .i64 t12)))), (13, .one (.c (.d (.int .i64 t13))))], [], [], 0⟩ [(decide ((t13 : Int) < t12)) = true] (by kernel_rfl) ⟨b10_e0, trivial⟩ ?_
      obtain ⟨g11_0, h⟩ := ifS h
      refine At.step hm ht ⟨[], [], [], [3, 4, 5, 7, 11, 12, 13], [2]⟩ 5 ⟨[(3, .one (.c (.d (.int .i64 total)))), (4, .one (.c (.d (.int .i64 best)))), (5, .one (.c (.d (.int .i64 sum)))), (7, .one (.c (.ptr 0 0))), (11, .one (.c (.d (.sl (.pair (.int .i64) (.int .i64)) t11)))), (12, .one (.c (.d (.int .i64 t12)))), (13, .one (.c (.d (.int .i64 t13))))], [], [(0, [.d (.int .i64 ((t11.getD t13.toNat (0, 0)).1)), .d (.int .i64 ((t11.getD t13.toNat (0, 0)).2))])], 1⟩ [(0 : Int) ≤ t13 ∧ t13 < (((t11).length : Nat) : Int), 0 + 2 ≤ 2] (by kernel_rfl) ⟨g11_0, (by decide), trivial⟩ ?_
      refine At.step hm ht ⟨[], [], [], [3, 4, 5, 8, 9, 11, 12, 13], []⟩ 6 ⟨[(3, .one (.c (.d (.int .i64 total)))), (4, .one (.c (.d (.int .i64 best)))), (5, .one (.c (.d (.int .i64 sum)))), (8, .one (.c (.d (.int .i64 (if 65536 < (if ((t11.getD t13.toNat (0, 0)).1) < 1 then 1 else ((t11.getD t13.toNat (0, 0)).1)) then 65536 else (if ((t11.getD t13.toNat (0, 0)).1) < 1 then 1 else ((t11.getD t13.toNat (0, 0)).1))))))), (9, .one (.c (.d (.int .i64 (if 4096 < (if ((t11.getD t13.toNat (0, 0)).2) < 1 then 1 else ((t11.getD t13.toNat (0, 0)).2)) then 4096 else (if ((t11.getD t13.toNat (0, 0)).2) < 1 then 1 else ((t11.getD t13.toNat (0, 0)).2))))))), (11, .one (.c (.d (.sl (.pair (.int .i64) (.int .i64)) t11)))), (12, .one (.c (.d (.int .i64 t12)))), (13, .one (.c (.d (.int .i64 t13))))], [], [], 0⟩ [] (by kernel_rfl) trivial ?_
      refine At.step hm ht ⟨[], [], [], [3, 4, 5, 8, 9, 11, 12, 13], []⟩ 7 ⟨[(3, .one (.c (.d (.int .i64 (IntKind.wrap .i64 (total + (if 65536 < (if ((t11.getD t13.toNat (0, 0)).1) < 1 then 1 else ((t11.getD t13.toNat (0, 0)).1)) then 65536 else (if ((t11.getD t13.toNat (0, 0)).1) < 1 then 1 else ((t11.getD t13.toNat (0, 0)).1))))))))), (4, .one (.c (.d (.int .i64 best)))), (5, .one (.c (.d (.int .i64 sum)))), (8, .one (.c (.d (.int .i64 (if 65536 < (if ((t11.getD t13.toNat (0, 0)).1) < 1 then 1 else ((t11.getD t13.toNat (0, 0)).1)) then 65536 else (if ((t11.getD t13.toNat (0, 0)).1) < 1 then 1 else ((t11.getD t13.toNat (0, 0)).1))))))), (9, .one (.c (.d (.int .i64 (if 4096 < (if ((t11.getD t13.toNat (0, 0)).2) < 1 then 1 else ((t11.getD t13.toNat (0, 0)).2)) then 4096 else (if ((t11.getD t13.toNat (0, 0)).2) < 1 then 1 else ((t11.getD t13.toNat (0, 0)).2))))))), (11, .one (.c (.d (.sl (.pair (.int .i64) (.int .i64)) t11)))), (12, .one (.c (.d (.int .i64 t12)))), (13, .one (.c (.d (.int .i64 t13))))], [], [], 0⟩ [] (by kernel_rfl) trivial ?_
      obtain ⟨g14_0, h⟩ := ifS h
      refine At.step hm ht ⟨[], [], [], [3, 4, 5, 8, 9, 11, 12, 13], []⟩ 8 ⟨[(3, .one (.c (.d (.int .i64 (IntKind.wrap .i64 (total + (if 65536 < (if ((t11.getD t13.toNat (0, 0)).1) < 1 then 1 else ((t11.getD t13.toNat (0, 0)).1)) then 65536 else (if ((t11.getD t13.toNat (0, 0)).1) < 1 then 1 else ((t11.getD t13.toNat (0, 0)).1))))))))), (4, .one (.c (.d (.int .i64 (if best < (IntKind.wrap .i64 (Int.tdiv (IntKind.wrap .i64 ((if 65536 < (if ((t11.getD t13.toNat (0, 0)).1) < 1 then 1 else ((t11.getD t13.toNat (0, 0)).1)) then 65536 else (if ((t11.getD t13.toNat (0, 0)).1) < 1 then 1 else ((t11.getD t13.toNat (0, 0)).1))) * 1024)) (IntKind.wrap .i64 ((if 4096 < (if ((t11.getD t13.toNat (0, 0)).2) < 1 then 1 else ((t11.getD t13.toNat (0, 0)).2)) then 4096 else (if ((t11.getD t13.toNat (0, 0)).2) < 1 then 1 else ((t11.getD t13.toNat (0, 0)).2))) * (if 4096 < (if ((t11.getD t13.toNat (0, 0)).2) < 1 then 1 else ((t11.getD t13.toNat (0, 0)).2)) then 4096 else (if ((t11.getD t13.toNat (0, 0)).2) < 1 then 1 else ((t11.getD t13.toNat (0, 0)).2))))))) then (IntKind.wrap .i64 (Int.tdiv (IntKind.wrap .i64 ((if 65536 < (if ((t11.getD t13.toNat (0, 0)).1) < 1 then 1 else ((t11.getD t13.toNat (0, 0)).1)) then 65536 else (if ((t11.getD t13.toNat (0, 0)).1) < 1 then 1 else ((t11.getD t13.toNat (0, 0)).1))) * 1024)) (IntKind.wrap .i64 ((if 4096 < (if ((t11.getD t13.toNat (0, 0)).2) < 1 then 1 else ((t11.getD t13.toNat (0, 0)).2)) then 4096 else (if ((t11.getD t13.toNat (0, 0)).2) < 1 then 1 else ((t11.getD t13.toNat (0, 0)).2))) * (if 4096 < (if ((t11.getD t13.toNat (0, 0)).2) < 1 then 1 else ((t11.getD t13.toNat (0, 0)).2)) then 4096 else (if ((t11.getD t13.toNat (0, 0)).2) < 1 then 1 else ((t11.getD t13.toNat (0, 0)).2))))))) else best))))), (5, .one (.c (.d (.int .i64 sum)))), (8, .one (.c (.d (.int .i64 (if 65536 < (if ((t11.getD t13.toNat (0, 0)).1) < 1 then 1 else ((t11.getD t13.toNat (0, 0)).1)) then 65536 else (if ((t11.getD t13.toNat (0, 0)).1) < 1 then 1 else ((t11.getD t13.toNat (0, 0)).1))))))), (9, .one (.c (.d (.int .i64 (if 4096 < (if ((t11.getD t13.toNat (0, 0)).2) < 1 then 1 else ((t11.getD t13.toNat (0, 0)).2)) then 4096 else (if ((t11.getD t13.toNat (0, 0)).2) < 1 then 1 else ((t11.getD t13.toNat (0, 0)).2))))))), (11, .one (.c (.d (.sl (.pair (.int .i64) (.int .i64)) t11)))), (12, .one (.c (.d (.int .i64 t12)))), (13, .one (.c (.d (.int .i64 t13))))], [], [], 0⟩ [((IntKind.wrap .i64 ((if 4096 < (if ((t11.getD t13.toNat (0, 0)).2) < 1 then 1 else ((t11.getD t13.toNat (0, 0)).2)) then 4096 else (if ((t11.getD t13.toNat (0, 0)).2) < 1 then 1 else ((t11.getD t13.toNat (0, 0)).2))) * (if 4096 < (if ((t11.getD t13.toNat (0, 0)).2) < 1 then 1 else ((t11.getD t13.toNat (0, 0)).2)) then 4096 else (if ((t11.getD t13.toNat (0, 0)).2) < 1 then 1 else ((t11.getD t13.toNat (0, 0)).2))))) : Int) ≠ 0] (by kernel_rfl) ⟨g14_0, trivial⟩ ?_
      obtain ⟨g15_0, h⟩ := ifS h
      refine At.step hm ht ⟨[], [], [], [3, 4, 5, 11, 12, 13], []⟩ 9 ⟨[(3, .one (.c (.d (.int .i64 (IntKind.wrap .i64 (total + (if 65536 < (if ((t11.getD t13.toNat (0, 0)).1) < 1 then 1 else ((t11.getD t13.toNat (0, 0)).1)) then 65536 else (if ((t11.getD t13.toNat (0, 0)).1) < 1 then 1 else ((t11.getD t13.toNat (0, 0)).1))))))))), (4, .one (.c (.d (.int .i64 (if best < (IntKind.wrap .i64 (Int.tdiv (IntKind.wrap .i64 ((if 65536 < (if ((t11.getD t13.toNat (0, 0)).1) < 1 then 1 else ((t11.getD t13.toNat (0, 0)).1)) then 65536 else (if ((t11.getD t13.toNat (0, 0)).1) < 1 then 1 else ((t11.getD t13.toNat (0, 0)).1))) * 1024)) (IntKind.wrap .i64 ((if 4096 < (if ((t11.getD t13.toNat (0, 0)).2) < 1 then 1 else ((t11.getD t13.toNat (0, 0)).2)) then 4096 else (if ((t11.getD t13.toNat (0, 0)).2) < 1 then 1 else ((t11.getD t13.toNat (0, 0)).2))) * (if 4096 < (if ((t11.getD t13.toNat (0, 0)).2) < 1 then 1 else ((t11.getD t13.toNat (0, 0)).2)) then 4096 else (if ((t11.getD t13.toNat (0, 0)).2) < 1 then 1 else ((t11.getD t13.toNat (0, 0)).2))))))) then (IntKind.wrap .i64 (Int.tdiv (IntKind.wrap .i64 ((if 65536 < (if ((t11.getD t13.toNat (0, 0)).1) < 1 then 1 else ((t11.getD t13.toNat (0, 0)).1)) then 65536 else (if ((t11.getD t13.toNat (0, 0)).1) < 1 then 1 else ((t11.getD t13.toNat (0, 0)).1))) * 1024)) (IntKind.wrap .i64 ((if 4096 < (if ((t11.getD t13.toNat (0, 0)).2) < 1 then 1 else ((t11.getD t13.toNat (0, 0)).2)) then 4096 else (if ((t11.getD t13.toNat (0, 0)).2) < 1 then 1 else ((t11.getD t13.toNat (0, 0)).2))) * (if 4096 < (if ((t11.getD t13.toNat (0, 0)).2) < 1 then 1 else ((t11.getD t13.toNat (0, 0)).2)) then 4096 else (if ((t11.getD t13.toNat (0, 0)).2) < 1 then 1 else ((t11.getD t13.toNat (0, 0)).2))))))) else best))))), (5, .one (.c (.d (.int .i64 (IntKind.wrap .i64 (sum + (IntKind.wrap .i64 (Int.tdiv (IntKind.wrap .i64 ((if 65536 < (if ((t11.getD t13.toNat (0, 0)).1) < 1 then 1 else ((t11.getD t13.toNat (0, 0)).1)) then 65536 else (if ((t11.getD t13.toNat (0, 0)).1) < 1 then 1 else ((t11.getD t13.toNat (0, 0)).1))) * 1024)) (if 4096 < (if ((t11.getD t13.toNat (0, 0)).2) < 1 then 1 else ((t11.getD t13.toNat (0, 0)).2)) then 4096 else (if ((t11.getD t13.toNat (0, 0)).2) < 1 then 1 else ((t11.getD t13.toNat (0, 0)).2))))))))))), (11, .one (.c (.d (.sl (.pair (.int .i64) (.int .i64)) t11)))), (12, .one (.c (.d (.int .i64 t12)))), (13, .one (.c (.d (.int .i64 t13))))], [], [], 0⟩ [((if 4096 < (if ((t11.getD t13.toNat (0, 0)).2) < 1 then 1 else ((t11.getD t13.toNat (0, 0)).2)) then 4096 else (if ((t11.getD t13.toNat (0, 0)).2) < 1 then 1 else ((t11.getD t13.toNat (0, 0)).2))) : Int) ≠ 0] (by kernel_rfl) ⟨g15_0, trivial⟩ ?_
      refine At.step hm ht ⟨[], [], [], [3, 4, 5, 11, 12, 13], []⟩ 3 ⟨[(3, .one (.c (.d (.int .i64 (IntKind.wrap .i64 (total + (if 65536 < (if ((t11.getD t13.toNat (0, 0)).1) < 1 then 1 else ((t11.getD t13.toNat (0, 0)).1)) then 65536 else (if ((t11.getD t13.toNat (0, 0)).1) < 1 then 1 else ((t11.getD t13.toNat (0, 0)).1))))))))), (4, .one (.c (.d (.int .i64 (if best < (IntKind.wrap .i64 (Int.tdiv (IntKind.wrap .i64 ((if 65536 < (if ((t11.getD t13.toNat (0, 0)).1) < 1 then 1 else ((t11.getD t13.toNat (0, 0)).1)) then 65536 else (if ((t11.getD t13.toNat (0, 0)).1) < 1 then 1 else ((t11.getD t13.toNat (0, 0)).1))) * 1024)) (IntKind.wrap .i64 ((if 4096 < (if ((t11.getD t13.toNat (0, 0)).2) < 1 then 1 else ((t11.getD t13.toNat (0, 0)).2)) then 4096 else (if ((t11.getD t13.toNat (0, 0)).2) < 1 then 1 else ((t11.getD t13.toNat (0, 0)).2))) * (if 4096 < (if ((t11.getD t13.toNat (0, 0)).2) < 1 then 1 else ((t11.getD t13.toNat (0, 0)).2)) then 4096 else (if ((t11.getD t13.toNat (0, 0)).2) < 1 then 1 else ((t11.getD t13.toNat (0, 0)).2))))))) then (IntKind.wrap .i64 (Int.tdiv (IntKind.wrap .i64 ((if 65536 < (if ((t11.getD t13.toNat (0, 0)).1) < 1 then 1 else ((t11.getD t13.toNat (0, 0)).1)) then 65536 else (if ((t11.getD t13.toNat (0, 0)).1) < 1 then 1 else ((t11.getD t13.toNat (0, 0)).1))) * 1024)) (IntKind.wrap .i64 ((if 4096 < (if ((t11.getD t13.toNat (0, 0)).2) < 1 then 1 else ((t11.getD t13.toNat (0, 0)).2)) then 4096 else (if ((t11.getD t13.toNat (0, 0)).2) < 1 then 1 else ((t11.getD t13.toNat (0, 0)).2))) * (if 4096 < (if ((t11.getD t13.toNat (0, 0)).2) < 1 then 1 else ((t11.getD t13.toNat (0, 0)).2)) then 4096 else (if ((t11.getD t13.toNat (0, 0)).2) < 1 then 1 else ((t11.getD t13.toNat (0, 0)).2))))))) else best))))), (5, .one (.c (.d (.int .i64 (IntKind.wrap .i64 (sum + (IntKind.wrap .i64 (Int.tdiv (IntKind.wrap .i64 ((if 65536 < (if ((t11.getD t13.toNat (0, 0)).1) < 1 then 1 else ((t11.getD t13.toNat (0, 0)).1)) then 65536 else (if ((t11.getD t13.toNat (0, 0)).1) < 1 then 1 else ((t11.getD t13.toNat (0, 0)).1))) * 1024)) (if 4096 < (if ((t11.getD t13.toNat (0, 0)).2) < 1 then 1 else ((t11.getD t13.toNat (0, 0)).2)) then 4096 else (if ((t11.getD t13.toNat (0, 0)).2) < 1 then 1 else ((t11.getD t13.toNat (0, 0)).2))))))))))), (11, .one (.c (.d (.sl (.pair (.int .i64) (.int .i64)) t11)))), (12, .one (.c (.d (.int .i64 t12)))), (13, .one (.c (.d (.int .i64 (IntKind.wrap .i64 (t13 + 1))))))], [], [], 0⟩ [] (by kernel_rfl) trivial ?_
      exact ih (IntKind.wrap .i64 (total + (if 65536 < (if ((t11.getD t13.toNat (0, 0)).1) < 1 then 1 else ((t11.getD t13.toNat (0, 0)).1)) then 65536 else (if ((t11.getD t13.toNat (0, 0)).1) < 1 then 1 else ((t11.getD t13.toNat (0, 0)).1))))) (if best < (IntKind.wrap .i64 (Int.tdiv (IntKind.wrap .i64 ((if 65536 < (if ((t11.getD t13.toNat (0, 0)).1) < 1 then 1 else ((t11.getD t13.toNat (0, 0)).1)) then 65536 else (if ((t11.getD t13.toNat (0, 0)).1) < 1 then 1 else ((t11.getD t13.toNat (0, 0)).1))) * 1024)) (IntKind.wrap .i64 ((if 4096 < (if ((t11.getD t13.toNat (0, 0)).2) < 1 then 1 else ((t11.getD t13.toNat (0, 0)).2)) then 4096 else (if ((t11.getD t13.toNat (0, 0)).2) < 1 then 1 else ((t11.getD t13.toNat (0, 0)).2))) * (if 4096 < (if ((t11.getD t13.toNat (0, 0)).2) < 1 then 1 else ((t11.getD t13.toNat (0, 0)).2)) then 4096 else (if ((t11.getD t13.toNat (0, 0)).2) < 1 then 1 else ((t11.getD t13.toNat (0, 0)).2))))))) then (IntKind.wrap .i64 (Int.tdiv (IntKind.wrap .i64 ((if 65536 < (if ((t11.getD t13.toNat (0, 0)).1) < 1 then 1 else ((t11.getD t13.toNat (0, 0)).1)) then 65536 else (if ((t11.getD t13.toNat (0, 0)).1) < 1 then 1 else ((t11.getD t13.toNat (0, 0)).1))) * 1024)) (IntKind.wrap .i64 ((if 4096 < (if ((t11.getD t13.toNat (0, 0)).2) < 1 then 1 else ((t11.getD t13.toNat (0, 0)).2)) then 4096 else (if ((t11.getD t13.toNat (0, 0)).2) < 1 then 1 else ((t11.getD t13.toNat (0, 0)).2))) * (if 4096 < (if ((t11.getD t13.toNat (0, 0)).2) < 1 then 1 else ((t11.getD t13.toNat (0, 0)).2)) then 4096 else (if ((t11.getD t13.toNat (0, 0)).2) < 1 then 1 else ((t11.getD t13.toNat (0, 0)).2))))))) else best) (IntKind.wrap .i64 (sum + (IntKind.wrap .i64 (Int.tdiv (IntKind.wrap .i64 ((if 65536 < (if ((t11.getD t13.toNat (0, 0)).1) < 1 then 1 else ((t11.getD t13.toNat (0, 0)).1)) then 65536 else (if ((t11.getD t13.toNat (0, 0)).1) < 1 then 1 else ((t11.getD t13.toNat (0, 0)).1))) * 1024)) (if 4096 < (if ((t11.getD t13.toNat (0, 0)).2) < 1 then 1 else ((t11.getD t13.toNat (0, 0)).2)) then 4096 else (if ((t11.getD t13.toNat (0, 0)).2) < 1 then 1 else ((t11.getD t13.toNat (0, 0)).2))))))) t11 t12 (IntKind.wrap .i64 (t13 + 1)) w h o hk
    · refine At.step hm ht ⟨[], [false], [], [3, 4, 5], []⟩ 10 ⟨[(3, .one (.c (.d (.int .i64 total)))), (4, .one (.c (.d (.int .i64 best)))), (5, .one (.c (.d (.int .i64 sum))))], [], [], 0⟩ [(decide ((t13 : Int) < t12)) = false] (by kernel_rfl) ⟨b10_e0, trivial⟩ ?_
      have h := Option.some.inj h
      subst h
      exact hk
def f38_cwnd_Alpha (n : Nat) (l : List (Int × Int)) : Option (Int) :=
  (f69_cwnd_first l).bind fun r7_0 =>
  (f38_cwnd_Alpha_L3 n 0 0 0 r7_0 ((r7_0.length : Nat) : Int) 0).bind fun w17 =>
  if ((w17.2.2 : Int) == 0) = true then
    some 1024
  else
    if ((w17.2.1 : Int) == 0) = true then
      some 1024
    else
      if (((IntKind.wrap .i64 (Int.tdiv w17.2.2 1024)) : Int) == 0) = true then
        some 1024
      else
        if ((IntKind.wrap .i64 ((IntKind.wrap .i64 (Int.tdiv w17.2.2 1024)) * (IntKind.wrap .i64 (Int.tdiv w17.2.2 1024)))) : Int) ≠ 0 then
        some (if 65536 < (if (IntKind.wrap .i64 (Int.tdiv (IntKind.wrap .i64 (w17.1 * w17.2.1)) (IntKind.wrap .i64 ((IntKind.wrap .i64 (Int.tdiv w17.2.2 1024)) * (IntKind.wrap .i64 (Int.tdiv w17.2.2 1024)))))) < 1 then 1 else (IntKind.wrap .i64 (Int.tdiv (IntKind.wrap .i64 (w17.1 * w17.2.1)) (IntKind.wrap .i64 ((IntKind.wrap .i64 (Int.tdiv w17.2.2 1024)) * (IntKind.wrap .i64 (Int.tdiv w17.2.2 1024))))))) then 65536 else (if (IntKind.wrap .i64 (Int.tdiv (IntKind.wrap .i64 (w17.1 * w17.2.1)) (IntKind.wrap .i64 ((IntKind.wrap .i64 (Int.tdiv w17.2.2 1024)) * (IntKind.wrap .i64 (Int.tdiv w17.2.2 1024)))))) < 1 then 1 else (IntKind.wrap .i64 (Int.tdiv (IntKind.wrap .i64 (w17.1 * w17.2.1)) (IntKind.wrap .i64 ((IntKind.wrap .i64 (Int.tdiv w17.2.2 1024)) * (IntKind.wrap .i64 (Int.tdiv w17.2.2 1024))))))))
        else none
theorem f38_cwnd_Alpha_ok (n : Nat) (l : List (Int × Int)) (r : Int) (h : f38_cwnd_Alpha n l = some r) : FnOK Go.Proofs.Try.prog 38 (f38_cwnd_Alpha_in l) (f38_cwnd_Alpha_out r) := by
  unfold f38_cwnd_Alpha at h
  refine At.fn (r := 0) Go.Proofs.Try.func38 rfl (by kernel_rfl) rfl rfl (by kernel_rfl) ?_
  show At Go.Proofs.Try.prog Go.Proofs.Try.f38 0 0 ⟨[(0, .one (.c (.d (.sl (.pair (.int .i64) (.int .i64)) l))))], [], [], 0⟩ _
  refine At.step hm ht ⟨[], [], [], [0], []⟩ 1 ⟨[(0, .one (.c (.d (.sl (.pair (.int .i64) (.int .i64)) l))))], [], [], 0⟩ [] (by kernel_rfl) trivial ?_
  refine At.step hm ht ⟨[], [], [], [0, 3, 4, 5], []⟩ 2 ⟨[(0, .one (.c (.d (.sl (.pair (.int .i64) (.int .i64)) l)))), (3, .one (.c (.d (.int .i64 0)))), (4, .one (.c (.d (.int .i64 0)))), (5, .one (.c (.d (.int .i64 0))))], [], [], 0⟩ [] (by kernel_rfl) trivial ?_
  obtain ⟨r7_0, cr7_0, h⟩ := bindS h
  refine At.step hm ht ⟨[(1, .call [] [] (f69_cwnd_first_out r7_0))], [], [], [3, 4, 5, 11, 12, 13], []⟩ 3 ⟨[(3, .one (.c (.d (.int .i64 0)))), (4, .one (.c (.d (.int .i64 0)))), (5, .one (.c (.d (.int .i64 0)))), (11, .one (.c (.d (.sl (.pair (.int .i64) (.int .i64)) r7_0)))), (12, .one (.c (.d (.int .i64 ((r7_0.length : Nat) : Int))))), (13, .one (.c (.d (.int .i64 0))))], [], [], 0⟩ [FnOK Go.Proofs.Try.prog 69 (f69_cwnd_first_in l) (f69_cwnd_first_out r7_0)] (by kernel_rfl) ⟨(f69_cwnd_first_ok l r7_0 cr7_0), trivial⟩ ?_
  obtain ⟨w17, cw17, h⟩ := bindS h
  refine f38_cwnd_Alpha_L3_ok n 0 0 0 r7_0 ((r7_0.length : Nat) : Int) 0 w17 cw17 _ ?_
  show At Go.Proofs.Try.prog Go.Proofs.Try.f38 0 10 ⟨[(3, .one (.c (.d (.int .i64 w17.1)))), (4, .one (.c (.d (.int .i64 w17.2.1)))), (5, .one (.c (.d (.int .i64 w17.2.2))))], [], [], 0⟩ _
  rcases iteS h with ⟨b19_2, h⟩ | ⟨b19_2, h⟩
  · refine At.step hm ht ⟨[(2, .b true)], [true], [], [], []⟩ 11 ⟨[], [], [], 0⟩ [((w17.2.2 : Int) == 0) = true, true = true] (by kernel_rfl) ⟨b19_2, rfl, trivial⟩ ?_
    have h := Option.some.inj h
    subst h
    exact At.fin hm ht ⟨[], [], [], [2], []⟩ [] (by kernel_rfl) trivial
  · rcases iteS h with ⟨b19_e0, h⟩ | ⟨b19_e0, h⟩
    · refine At.step hm ht ⟨[(2, .b false)], [true], [], [], []⟩ 11 ⟨[], [], [], 0⟩ [((w17.2.2 : Int) == 0) = false, ((w17.2.1 : Int) == 0) = true] (by kernel_rfl) ⟨b19_2, b19_e0, trivial⟩ ?_
      have h := Option.some.inj h
      subst h
      exact At.fin hm ht ⟨[], [], [], [2], []⟩ [] (by kernel_rfl) trivial
    · refine At.step hm ht ⟨[(2, .b false)], [false], [], [3, 4, 5], []⟩ 12 ⟨[(3, .one (.c (.d (.int .i64 w17.1)))), (4, .one (.c (.d (.int .i64 w17.2.1)))), (5, .one (.c (.d (.int .i64 w17.2.2))))], [], [], 0⟩ [((w17.2.2 : Int) == 0) = false, ((w17.2.1 : Int) == 0) = false] (by kernel_rfl) ⟨b19_2, b19_e0, trivial⟩ ?_
      refine At.step hm ht ⟨[], [], [], [3, 4, 5], []⟩ 13 ⟨[(3, .one (.c (.d (.int .i64 w17.1)))), (4, .one (.c (.d (.int .i64 w17.2.1)))), (5, .one (.c (.d (.int .i64 (IntKind.wrap .i64 (Int.tdiv w17.2.2 1024))))))], [], [], 0⟩ [(1024 : Int) ≠ 0] (by kernel_rfl) ⟨(by decide), trivial⟩ ?_
      rcases iteS h with ⟨b23_e0, h⟩ | ⟨b23_e0, h⟩
      · refine At.step hm ht ⟨[], [true], [], [], []⟩ 14 ⟨[], [], [], 0⟩ [(((IntKind.wrap .i64 (Int.tdiv w17.2.2 1024)) : Int) == 0) = true] (by kernel_rfl) ⟨b23_e0, trivial⟩ ?_
        have h := Option.some.inj h
        subst h
        exact At.fin hm ht ⟨[], [], [], [2], []⟩ [] (by kernel_rfl) trivial
      · refine At.step hm ht ⟨[], [false], [], [3, 4, 5], []⟩ 15 ⟨[(3, .one (.c (.d (.int .i64 w17.1)))), (4, .one (.c (.d (.int .i64 w17.2.1)))), (5, .one (.c (.d (.int .i64 (IntKind.wrap .i64 (Int.tdiv w17.2.2 1024))))))], [], [], 0⟩ [(((IntKind.wrap .i64 (Int.tdiv w17.2.2 1024)) : Int) == 0) = false] (by kernel_rfl) ⟨b23_e0, trivial⟩ ?_
        obtain ⟨g25_0, h⟩ := ifS h
        have h := Option.some.inj h
        subst h
        exact At.fin hm ht ⟨[], [], [], [2], []⟩ [((IntKind.wrap .i64 ((IntKind.wrap .i64 (Int.tdiv w17.2.2 1024)) * (IntKind.wrap .i64 (Int.tdiv w17.2.2 1024)))) : Int) ≠ 0] (by kernel_rfl) ⟨g25_0, trivial⟩
/-! brougham/broughamlaw13.plain -/
def f40_broughamlaw13_plain_in (l : List (Int × Int)) : Inn := ⟨[.c (.d (.sl (.pair (.int .i64) (.int .i64)) l))], [], [], 0⟩
def f40_broughamlaw13_plain_out (r : List (Int × Int)) : Out := ⟨.one (.c (.own 0 (.pair (.int .i64) (.int .i64)) r)), [(0, ⟨109, 0⟩)], [], 1⟩
def f40_broughamlaw13_plain_L3 : Nat → (List (Int × Int)) → (List (Int × Int)) → Int → Option (List (Int × Int))
  | 0, _, _, _ => none
  | n + 1, l, out, i =>
    if (decide ((i : Int) < ((l.length : Nat) : Int))) = true then
      if (0 : Int) ≤ i ∧ i < (((l).length : Nat) : Int) then
      if (0 : Int) ≤ i ∧ i < (((l).length : Nat) : Int) then
      if out.length + [(l.getD i.toNat (0, 0))].length ≤ maxLen ∧ (out.length + [(l.getD i.toNat (0, 0))].length) * 16 ≤ 140737488355328 then
      f40_broughamlaw13_plain_L3 n l (out ++ [(l.getD i.toNat (0, 0))]) (IntKind.wrap .i64 (i + 1))
      else none
      else none
      else none
    else
      some (out)
def f40_broughamlaw13_plain_L3_k (e : List (Int × Int)) (o : Out) : Prop := At Go.Proofs.Try.prog Go.Proofs.Try.f40 0 6 ⟨[(3, .one (.c (.own 0 (.pair (.int .i64) (.int .i64)) e)))], [(0, some ⟨109, 0⟩)], [], 1⟩ o
theorem f40_broughamlaw13_plain_L3_ok (n : Nat) : ∀ (l : List (Int × Int)) (out : List (Int × Int)) (i : Int) (w : List (Int × Int)) (h : f40_broughamlaw13_plain_L3 n l out i = some w) (o : Out) (hk : f40_broughamlaw13_plain_L3_k w o), At Go.Proofs.Try.prog Go.Proofs.Try.f40 0 3 ⟨[(0, .one (.c (.d (.sl (.pair (.int .i64) (.int .i64)) l)))), (3, .one (.c (.own 0 (.pair (.int .i64) (.int .i64)) out))), (4, .one (.c (.d (.int .i64 i))))], [(0, some ⟨109, 0⟩)], [], 1⟩ o := by
  induction n with
  | zero => intro l out i w h; rw [f40_broughamlaw13_plain_L3] at h; cases h
  | succ n ih =>
    intro l out i w h o hk
    rw [f40_broughamlaw13_plain_L3] at h
    rcases iteS h with ⟨b35_e0, h⟩ | ⟨b35_e0, h⟩
    · refine At.step hm ht ⟨[], [true], [], [0, 3, 4], [0]⟩ 5 ⟨[(0, .one (.c (.d (.sl (.pair (.int .i64) (.int .i64)) l)))), (3, .one (.c (.own 0 (.pair (.int .i64) (.int .i64)) out))), (4, .one (.c (.d (.int .i64 i))))], [(0, some ⟨109, 0⟩)], [], 1⟩ [(decide ((i : Int) < ((l.length : Nat) : Int))) = true] (by kernel_rfl) ⟨b35_e0, trivial⟩ ?_
      obtain ⟨g36_0, h⟩ := ifS h
      obtain ⟨g36_1, h⟩ := ifS h
      obtain ⟨g36_2, h⟩ := ifS h
      refine At.step hm ht ⟨[], [], [], [0, 3, 4], [14]⟩ 4 ⟨[(0, .one (.c (.d (.sl (.pair (.int .i64) (.int .i64)) l)))), (3, .one (.c (.own 0 (.pair (.int .i64) (.int .i64)) (out ++ [(l.getD i.toNat (0, 0))])))), (4, .one (.c (.d (.int .i64 i))))], [(0, some ⟨109, 0⟩)], [], 1⟩ [(0 : Int) ≤ i ∧ i < (((l).length : Nat) : Int), (0 : Int) ≤ i ∧ i < (((l).length : Nat) : Int), out.length + [(l.getD i.toNat (0, 0))].length ≤ maxLen ∧ (out.length + [(l.getD i.toNat (0, 0))].length) * 16 ≤ 140737488355328] (by kernel_rfl) ⟨g36_0, g36_1, g36_2, trivial⟩ ?_
      refine At.step hm ht ⟨[], [], [], [0, 3, 4], [0]⟩ 3 ⟨[(0, .one (.c (.d (.sl (.pair (.int .i64) (.int .i64)) l)))), (3, .one (.c (.own 0 (.pair (.int .i64) (.int .i64)) (out ++ [(l.getD i.toNat (0, 0))])))), (4, .one (.c (.d (.int .i64 (IntKind.wrap .i64 (i + 1))))))], [(0, some ⟨109, 0⟩)], [], 1⟩ [] (by kernel_rfl) trivial ?_
      exact ih l (out ++ [(l.getD i.toNat (0, 0))]) (IntKind.wrap .i64 (i + 1)) w h o hk
    · refine At.step hm ht ⟨[], [false], [], [3], [0]⟩ 6 ⟨[(3, .one (.c (.own 0 (.pair (.int .i64) (.int .i64)) out)))], [(0, some ⟨109, 0⟩)], [], 1⟩ [(decide ((i : Int) < ((l.length : Nat) : Int))) = false] (by kernel_rfl) ⟨b35_e0, trivial⟩ ?_
      have h := Option.some.inj h
      subst h
      exact hk
def f40_broughamlaw13_plain (n : Nat) (l : List (Int × Int)) : Option (List (Int × Int)) :=
  (f40_broughamlaw13_plain_L3 n l [] 0).bind fun w38 =>
  some w38
theorem f40_broughamlaw13_plain_ok (n : Nat) (l : List (Int × Int)) (r : List (Int × Int)) (h : f40_broughamlaw13_plain n l = some r) : FnOK Go.Proofs.Try.prog 40 (f40_broughamlaw13_plain_in l) (f40_broughamlaw13_plain_out r) := by
  unfold f40_broughamlaw13_plain at h
  refine At.fn (r := 0) Go.Proofs.Try.func40 rfl (by kernel_rfl) rfl rfl (by kernel_rfl) ?_
  show At Go.Proofs.Try.prog Go.Proofs.Try.f40 0 0 ⟨[(0, .one (.c (.d (.sl (.pair (.int .i64) (.int .i64)) l))))], [], [], 0⟩ _
  refine At.step hm ht ⟨[], [], [], [0], []⟩ 1 ⟨[(0, .one (.c (.d (.sl (.pair (.int .i64) (.int .i64)) l))))], [], [], 0⟩ [] (by kernel_rfl) trivial ?_
  refine At.step hm ht ⟨[], [], [], [0, 3], []⟩ 2 ⟨[(0, .one (.c (.d (.sl (.pair (.int .i64) (.int .i64)) l)))), (3, .one (.c (.d (.sl .unit []))))], [], [], 0⟩ [] (by kernel_rfl) trivial ?_
  refine At.step hm ht ⟨[], [], [.nil false 3 0 (.pair (.int .i64) (.int .i64)) (some 109)], [0, 3, 4], [1]⟩ 3 ⟨[(0, .one (.c (.d (.sl (.pair (.int .i64) (.int .i64)) l)))), (3, .one (.c (.own 0 (.pair (.int .i64) (.int .i64)) []))), (4, .one (.c (.d (.int .i64 0))))], [(0, some ⟨109, 0⟩)], [], 1⟩ [] (by kernel_rfl) trivial ?_
  obtain ⟨w38, cw38, h⟩ := bindS h
  refine f40_broughamlaw13_plain_L3_ok n l [] 0 w38 cw38 _ ?_
  show At Go.Proofs.Try.prog Go.Proofs.Try.f40 0 6 ⟨[(3, .one (.c (.own 0 (.pair (.int .i64) (.int .i64)) w38)))], [(0, some ⟨109, 0⟩)], [], 1⟩ _
  have h := Option.some.inj h
  subst h
  exact At.fin hm ht ⟨[], [], [], [2], [0]⟩ [] (by kernel_rfl) trivial
/-! brougham/broughamref13.within -/
def f71_broughamref13_within_in (n_ : Int) (lo : Int) (hi : Int) : Inn := ⟨[.c (.d (.int .i64 n_)), .c (.d (.int .i64 lo)), .c (.d (.int .i64 hi))], [], [], 0⟩
def f71_broughamref13_within_out (r : Int) : Out := ⟨.one (.c (.d (.int .i64 r))), [], [], 0⟩
def f71_broughamref13_within (n_ : Int) (lo : Int) (hi : Int) : Option (Int) :=
  if (decide ((n_ : Int) < lo)) = true then
    some lo
  else
    if (decide ((n_ : Int) > hi)) = true then
      some hi
    else
      some n_
theorem f71_broughamref13_within_ok (n_ : Int) (lo : Int) (hi : Int) (r : Int) (h : f71_broughamref13_within n_ lo hi = some r) : FnOK Go.Proofs.Try.prog 71 (f71_broughamref13_within_in n_ lo hi) (f71_broughamref13_within_out r) := by
  unfold f71_broughamref13_within at h
  refine At.fn (r := 0) Go.Proofs.Try.func71 rfl (by kernel_rfl) rfl rfl (by kernel_rfl) ?_
  show At Go.Proofs.Try.prog Go.Proofs.Try.f71 0 0 ⟨[(0, .one (.c (.d (.int .i64 n_)))), (1, .one (.c (.d (.int .i64 lo)))), (2, .one (.c (.d (.int .i64 hi))))], [], [], 0⟩ _
  refine At.step hm ht ⟨[], [], [], [0, 1, 2], []⟩ 1 ⟨[(0, .one (.c (.d (.int .i64 n_)))), (1, .one (.c (.d (.int .i64 lo)))), (2, .one (.c (.d (.int .i64 hi))))], [], [], 0⟩ [] (by kernel_rfl) trivial ?_
  rcases iteS h with ⟨b49_e0, h⟩ | ⟨b49_e0, h⟩
  · refine At.step hm ht ⟨[], [true], [], [1], []⟩ 2 ⟨[(1, .one (.c (.d (.int .i64 lo))))], [], [], 0⟩ [(decide ((n_ : Int) < lo)) = true] (by kernel_rfl) ⟨b49_e0, trivial⟩ ?_
    have h := Option.some.inj h
    subst h
    exact At.fin hm ht ⟨[], [], [], [6], []⟩ [] (by kernel_rfl) trivial
  · refine At.step hm ht ⟨[], [false], [], [0, 2], []⟩ 3 ⟨[(0, .one (.c (.d (.int .i64 n_)))), (2, .one (.c (.d (.int .i64 hi))))], [], [], 0⟩ [(decide ((n_ : Int) < lo)) = false] (by kernel_rfl) ⟨b49_e0, trivial⟩ ?_
    rcases iteS h with ⟨b51_e0, h⟩ | ⟨b51_e0, h⟩
    · refine At.step hm ht ⟨[], [true], [], [2], []⟩ 4 ⟨[(2, .one (.c (.d (.int .i64 hi))))], [], [], 0⟩ [(decide ((n_ : Int) > hi)) = true] (by kernel_rfl) ⟨b51_e0, trivial⟩ ?_
      have h := Option.some.inj h
      subst h
      exact At.fin hm ht ⟨[], [], [], [6], []⟩ [] (by kernel_rfl) trivial
    · refine At.step hm ht ⟨[], [false], [], [0], []⟩ 5 ⟨[(0, .one (.c (.d (.int .i64 n_))))], [], [], 0⟩ [(decide ((n_ : Int) > hi)) = false] (by kernel_rfl) ⟨b51_e0, trivial⟩ ?_
      have h := Option.some.inj h
      subst h
      exact At.fin hm ht ⟨[], [], [], [6], []⟩ [] (by kernel_rfl) trivial
/-! brougham/broughamref13.paths -/
def f70_broughamref13_paths_in (l : List (Int × Int)) : Inn := ⟨[.c (.d (.sl (.pair (.int .i64) (.int .i64)) l))], [], [], 0⟩
def f70_broughamref13_paths_out (r : List (Int × Int)) : Out := ⟨.one (.c (.own 0 (.pair (.int .i64) (.int .i64)) r)), [(0, ⟨109, 0⟩)], [], 1⟩
def f70_broughamref13_paths_L3 : Nat → (List (Int × Int)) → (List (Int × Int)) → Int → Option (List (Int × Int))
  | 0, _, _, _ => none
  | n + 1, l, out, i =>
    if (decide ((i : Int) < ((l.length : Nat) : Int))) = true then
      if (decide ((i : Int) < 64)) = true then
        if (0 : Int) ≤ i ∧ i < (((l).length : Nat) : Int) then
        (f71_broughamref13_within ((l.getD i.toNat (0, 0)).1) 1 65536).bind fun r59_1 =>
        if (0 : Int) ≤ i ∧ i < (((l).length : Nat) : Int) then
        (f71_broughamref13_within ((l.getD i.toNat (0, 0)).2) 1 4096).bind fun r59_3 =>
        if out.length + [(r59_1, r59_3)].length ≤ maxLen ∧ (out.length + [(r59_1, r59_3)].length) * 16 ≤ 140737488355328 then
        f70_broughamref13_paths_L3 n l (out ++ [(r59_1, r59_3)]) (IntKind.wrap .i64 (i + 1))
        else none
        else none
        else none
      else
        some (out)
    else
      some (out)
def f70_broughamref13_paths_L3_k (e : List (Int × Int)) (o : Out) : Prop := At Go.Proofs.Try.prog Go.Proofs.Try.f70 0 6 ⟨[(3, .one (.c (.own 0 (.pair (.int .i64) (.int .i64)) e)))], [(0, some ⟨109, 0⟩)], [], 1⟩ o
theorem f70_broughamref13_paths_L3_ok (n : Nat) : ∀ (l : List (Int × Int)) (out : List (Int × Int)) (i : Int) (w : List (Int × Int)) (h : f70_broughamref13_paths_L3 n l out i = some w) (o : Out) (hk : f70_broughamref13_paths_L3_k w o), At Go.Proofs.Try.prog Go.Proofs.Try.f70 0 3 ⟨[(0, .one (.c (.d (.sl (.pair (.int .i64) (.int .i64)) l)))), (3, .one (.c (.own 0 (.pair (.int .i64) (.int .i64)) out))), (4, .one (.c (.d (.int .i64 i))))], [(0, some ⟨109, 0⟩)], [], 1⟩ o := by
  induction n with
  | zero => intro l out i w h; rw [f70_broughamref13_paths_L3] at h; cases h
  | succ n ih =>
    intro l out i w h o hk
    rw [f70_broughamref13_paths_L3] at h
    rcases iteS h with ⟨b58_4, h⟩ | ⟨b58_4, h⟩
    · rcases iteS h with ⟨b58_e0, h⟩ | ⟨b58_e0, h⟩
      · refine At.step hm ht ⟨[(4, .b true)], [true], [], [0, 3, 4], [0]⟩ 5 ⟨[(0, .one (.c (.d (.sl (.pair (.int .i64) (.int .i64)) l)))), (3, .one (.c (.own 0 (.pair (.int .i64) (.int .i64)) out))), (4, .one (.c (.d (.int .i64 i))))], [(0, some ⟨109, 0⟩)], [], 1⟩ [(decide ((i : Int) < ((l.length : Nat) : Int))) = true, (decide ((i : Int) < 64)) = true] (by kernel_rfl) ⟨b58_4, b58_e0, trivial⟩ ?_
        obtain ⟨g59_0, h⟩ := ifS h
        obtain ⟨r59_1, cr59_1, h⟩ := bindS h
        obtain ⟨g59_2, h⟩ := ifS h
        obtain ⟨r59_3, cr59_3, h⟩ := bindS h
        obtain ⟨g59_4, h⟩ := ifS h
        refine At.step hm ht ⟨[(6, .call [] [] (f71_broughamref13_within_out r59_1)), (12, .call [] [] (f71_broughamref13_within_out r59_3))], [], [], [0, 3, 4], [14]⟩ 4 ⟨[(0, .one (.c (.d (.sl (.pair (.int .i64) (.int .i64)) l)))), (3, .one (.c (.own 0 (.pair (.int .i64) (.int .i64)) (out ++ [(r59_1, r59_3)])))), (4, .one (.c (.d (.int .i64 i))))], [(0, some ⟨109, 0⟩)], [], 1⟩ [(0 : Int) ≤ i ∧ i < (((l).length : Nat) : Int), FnOK Go.Proofs.Try.prog 71 (f71_broughamref13_within_in ((l.getD i.toNat (0, 0)).1) 1 65536) (f71_broughamref13_within_out r59_1), (0 : Int) ≤ i ∧ i < (((l).length : Nat) : Int), FnOK Go.Proofs.Try.prog 71 (f71_broughamref13_within_in ((l.getD i.toNat (0, 0)).2) 1 4096) (f71_broughamref13_within_out r59_3), out.length + [(r59_1, r59_3)].length ≤ maxLen ∧ (out.length + [(r59_1, r59_3)].length) * 16 ≤ 140737488355328] (by kernel_rfl) ⟨g59_0, (f71_broughamref13_within_ok ((l.getD i.toNat (0, 0)).1) 1 65536 r59_1 cr59_1), g59_2, (f71_broughamref13_within_ok ((l.getD i.toNat (0, 0)).2) 1 4096 r59_3 cr59_3), g59_4, trivial⟩ ?_
        refine At.step hm ht ⟨[], [], [], [0, 3, 4], [0]⟩ 3 ⟨[(0, .one (.c (.d (.sl (.pair (.int .i64) (.int .i64)) l)))), (3, .one (.c (.own 0 (.pair (.int .i64) (.int .i64)) (out ++ [(r59_1, r59_3)])))), (4, .one (.c (.d (.int .i64 (IntKind.wrap .i64 (i + 1))))))], [(0, some ⟨109, 0⟩)], [], 1⟩ [] (by kernel_rfl) trivial ?_
        exact ih l (out ++ [(r59_1, r59_3)]) (IntKind.wrap .i64 (i + 1)) w h o hk
      · refine At.step hm ht ⟨[(4, .b true)], [false], [], [3], [0]⟩ 6 ⟨[(3, .one (.c (.own 0 (.pair (.int .i64) (.int .i64)) out)))], [(0, some ⟨109, 0⟩)], [], 1⟩ [(decide ((i : Int) < ((l.length : Nat) : Int))) = true, (decide ((i : Int) < 64)) = false] (by kernel_rfl) ⟨b58_4, b58_e0, trivial⟩ ?_
        have h := Option.some.inj h
        subst h
        exact hk
    · refine At.step hm ht ⟨[(4, .b false)], [false], [], [3], [0]⟩ 6 ⟨[(3, .one (.c (.own 0 (.pair (.int .i64) (.int .i64)) out)))], [(0, some ⟨109, 0⟩)], [], 1⟩ [(decide ((i : Int) < ((l.length : Nat) : Int))) = false, false = false] (by kernel_rfl) ⟨b58_4, rfl, trivial⟩ ?_
      have h := Option.some.inj h
      subst h
      exact hk
def f70_broughamref13_paths (n : Nat) (l : List (Int × Int)) : Option (List (Int × Int)) :=
  (f70_broughamref13_paths_L3 n l [] 0).bind fun w61 =>
  some w61
theorem f70_broughamref13_paths_ok (n : Nat) (l : List (Int × Int)) (r : List (Int × Int)) (h : f70_broughamref13_paths n l = some r) : FnOK Go.Proofs.Try.prog 70 (f70_broughamref13_paths_in l) (f70_broughamref13_paths_out r) := by
  unfold f70_broughamref13_paths at h
  refine At.fn (r := 0) Go.Proofs.Try.func70 rfl (by kernel_rfl) rfl rfl (by kernel_rfl) ?_
  show At Go.Proofs.Try.prog Go.Proofs.Try.f70 0 0 ⟨[(0, .one (.c (.d (.sl (.pair (.int .i64) (.int .i64)) l))))], [], [], 0⟩ _
  refine At.step hm ht ⟨[], [], [], [0], []⟩ 1 ⟨[(0, .one (.c (.d (.sl (.pair (.int .i64) (.int .i64)) l))))], [], [], 0⟩ [] (by kernel_rfl) trivial ?_
  refine At.step hm ht ⟨[], [], [], [0, 3], []⟩ 2 ⟨[(0, .one (.c (.d (.sl (.pair (.int .i64) (.int .i64)) l)))), (3, .one (.c (.d (.sl .unit []))))], [], [], 0⟩ [] (by kernel_rfl) trivial ?_
  refine At.step hm ht ⟨[], [], [.nil false 3 0 (.pair (.int .i64) (.int .i64)) (some 109)], [0, 3, 4], [1]⟩ 3 ⟨[(0, .one (.c (.d (.sl (.pair (.int .i64) (.int .i64)) l)))), (3, .one (.c (.own 0 (.pair (.int .i64) (.int .i64)) []))), (4, .one (.c (.d (.int .i64 0))))], [(0, some ⟨109, 0⟩)], [], 1⟩ [] (by kernel_rfl) trivial ?_
  obtain ⟨w61, cw61, h⟩ := bindS h
  refine f70_broughamref13_paths_L3_ok n l [] 0 w61 cw61 _ ?_
  show At Go.Proofs.Try.prog Go.Proofs.Try.f70 0 6 ⟨[(3, .one (.c (.own 0 (.pair (.int .i64) (.int .i64)) w61)))], [(0, some ⟨109, 0⟩)], [], 1⟩ _
  have h := Option.some.inj h
  subst h
  exact At.fin hm ht ⟨[], [], [], [2], [0]⟩ [] (by kernel_rfl) trivial
/-! brougham/broughamref13.total -/
def f72_broughamref13_total_in (l : List (Int × Int)) : Inn := ⟨[.c (.d (.sl (.pair (.int .i64) (.int .i64)) l))], [], [], 0⟩
def f72_broughamref13_total_out (r : Int) : Out := ⟨.one (.c (.d (.int .i64 r))), [], [], 0⟩
def f72_broughamref13_total_L3 : Nat → (List (Int × Int)) → Int → Int → Option (Int)
  | 0, _, _, _ => none
  | n + 1, l, n_, i =>
    if (decide ((i : Int) < ((l.length : Nat) : Int))) = true then
      if (0 : Int) ≤ i ∧ i < (((l).length : Nat) : Int) then
      f72_broughamref13_total_L3 n l (IntKind.wrap .i64 (n_ + ((l.getD i.toNat (0, 0)).1))) (IntKind.wrap .i64 (i + 1))
      else none
    else
      some (n_)
def f72_broughamref13_total_L3_k (e : Int) (o : Out) : Prop := At Go.Proofs.Try.prog Go.Proofs.Try.f72 0 6 ⟨[(3, .one (.c (.d (.int .i64 e))))], [], [], 0⟩ o
theorem f72_broughamref13_total_L3_ok (n : Nat) : ∀ (l : List (Int × Int)) (n_ : Int) (i : Int) (w : Int) (h : f72_broughamref13_total_L3 n l n_ i = some w) (o : Out) (hk : f72_broughamref13_total_L3_k w o), At Go.Proofs.Try.prog Go.Proofs.Try.f72 0 3 ⟨[(0, .one (.c (.d (.sl (.pair (.int .i64) (.int .i64)) l)))), (3, .one (.c (.d (.int .i64 n_)))), (4, .one (.c (.d (.int .i64 i))))], [], [], 0⟩ o := by
  induction n with
  | zero => intro l n_ i w h; rw [f72_broughamref13_total_L3] at h; cases h
  | succ n ih =>
    intro l n_ i w h o hk
    rw [f72_broughamref13_total_L3] at h
    rcases iteS h with ⟨b84_e0, h⟩ | ⟨b84_e0, h⟩
    · refine At.step hm ht ⟨[], [true], [], [0, 3, 4], []⟩ 5 ⟨[(0, .one (.c (.d (.sl (.pair (.int .i64) (.int .i64)) l)))), (3, .one (.c (.d (.int .i64 n_)))), (4, .one (.c (.d (.int .i64 i))))], [], [], 0⟩ [(decide ((i : Int) < ((l.length : Nat) : Int))) = true] (by kernel_rfl) ⟨b84_e0, trivial⟩ ?_
      obtain ⟨g85_0, h⟩ := ifS h
      refine At.step hm ht ⟨[], [], [], [0, 3, 4], []⟩ 4 ⟨[(0, .one (.c (.d (.sl (.pair (.int .i64) (.int .i64)) l)))), (3, .one (.c (.d (.int .i64 (IntKind.wrap .i64 (n_ + ((l.getD i.toNat (0, 0)).1))))))), (4, .one (.c (.d (.int .i64 i))))], [], [], 0⟩ [(0 : Int) ≤ i ∧ i < (((l).length : Nat) : Int)] (by kernel_rfl) ⟨g85_0, trivial⟩ ?_
      refine At.step hm ht ⟨[], [], [], [0, 3, 4], []⟩ 3 ⟨[(0, .one (.c (.d (.sl (.pair (.int .i64) (.int .i64)) l)))), (3, .one (.c (.d (.int .i64 (IntKind.wrap .i64 (n_ + ((l.getD i.toNat (0, 0)).1))))))), (4, .one (.c (.d (.int .i64 (IntKind.wrap .i64 (i + 1))))))], [], [], 0⟩ [] (by kernel_rfl) trivial ?_
      exact ih l (IntKind.wrap .i64 (n_ + ((l.getD i.toNat (0, 0)).1))) (IntKind.wrap .i64 (i + 1)) w h o hk
    · refine At.step hm ht ⟨[], [false], [], [3], []⟩ 6 ⟨[(3, .one (.c (.d (.int .i64 n_))))], [], [], 0⟩ [(decide ((i : Int) < ((l.length : Nat) : Int))) = false] (by kernel_rfl) ⟨b84_e0, trivial⟩ ?_
      have h := Option.some.inj h
      subst h
      exact hk
def f72_broughamref13_total (n : Nat) (l : List (Int × Int)) : Option (Int) :=
  (f72_broughamref13_total_L3 n l 0 0).bind fun w87 =>
  some w87
theorem f72_broughamref13_total_ok (n : Nat) (l : List (Int × Int)) (r : Int) (h : f72_broughamref13_total n l = some r) : FnOK Go.Proofs.Try.prog 72 (f72_broughamref13_total_in l) (f72_broughamref13_total_out r) := by
  unfold f72_broughamref13_total at h
  refine At.fn (r := 0) Go.Proofs.Try.func72 rfl (by kernel_rfl) rfl rfl (by kernel_rfl) ?_
  show At Go.Proofs.Try.prog Go.Proofs.Try.f72 0 0 ⟨[(0, .one (.c (.d (.sl (.pair (.int .i64) (.int .i64)) l))))], [], [], 0⟩ _
  refine At.step hm ht ⟨[], [], [], [0], []⟩ 1 ⟨[(0, .one (.c (.d (.sl (.pair (.int .i64) (.int .i64)) l))))], [], [], 0⟩ [] (by kernel_rfl) trivial ?_
  refine At.step hm ht ⟨[], [], [], [0, 3], []⟩ 2 ⟨[(0, .one (.c (.d (.sl (.pair (.int .i64) (.int .i64)) l)))), (3, .one (.c (.d (.int .i64 0))))], [], [], 0⟩ [] (by kernel_rfl) trivial ?_
  refine At.step hm ht ⟨[], [], [], [0, 3, 4], []⟩ 3 ⟨[(0, .one (.c (.d (.sl (.pair (.int .i64) (.int .i64)) l)))), (3, .one (.c (.d (.int .i64 0)))), (4, .one (.c (.d (.int .i64 0))))], [], [], 0⟩ [] (by kernel_rfl) trivial ?_
  obtain ⟨w87, cw87, h⟩ := bindS h
  refine f72_broughamref13_total_L3_ok n l 0 0 w87 cw87 _ ?_
  show At Go.Proofs.Try.prog Go.Proofs.Try.f72 0 6 ⟨[(3, .one (.c (.d (.int .i64 w87))))], [], [], 0⟩ _
  have h := Option.some.inj h
  subst h
  exact At.fin hm ht ⟨[], [], [], [2], []⟩ [] (by kernel_rfl) trivial
/-! brougham/broughamref13.Alpha -/
def f39_broughamref13_Alpha_in (all : List (Int × Int)) : Inn := ⟨[.c (.d (.sl (.pair (.int .i64) (.int .i64)) all))], [], [], 0⟩
def f39_broughamref13_Alpha_out (r : Int) : Out := ⟨.one (.c (.d (.int .i64 r))), [], [], 0⟩
def f39_broughamref13_Alpha_L4 : Nat → (List (Int × Int)) → Int → Int → Int → Option ((List (Int × Int)) × Int × Int)
  | 0, _, _, _, _ => none
  | n + 1, l, best, sum, i =>
    if (decide ((i : Int) < ((l.length : Nat) : Int))) = true then
      if (0 : Int) ≤ i ∧ i < (((l).length : Nat) : Int) then
      if (0 : Int) ≤ i ∧ i < (((l).length : Nat) : Int) then
      if (0 : Int) ≤ i ∧ i < (((l).length : Nat) : Int) then
      if ((IntKind.wrap .i64 (((l.getD i.toNat (0, 0)).2) * ((l.getD i.toNat (0, 0)).2))) : Int) ≠ 0 then
      if (decide (((IntKind.wrap .i64 (Int.tdiv (IntKind.wrap .i64 (((l.getD i.toNat (0, 0)).1) * 1024)) (IntKind.wrap .i64 (((l.getD i.toNat (0, 0)).2) * ((l.getD i.toNat (0, 0)).2))))) : Int) > best)) = true then
        if (0 : Int) ≤ i ∧ i < (((l).length : Nat) : Int) then
        if (0 : Int) ≤ i ∧ i < (((l).length : Nat) : Int) then
        if (((l.getD i.toNat (0, 0)).2) : Int) ≠ 0 then
        f39_broughamref13_Alpha_L4 n l (IntKind.wrap .i64 (Int.tdiv (IntKind.wrap .i64 (((l.getD i.toNat (0, 0)).1) * 1024)) (IntKind.wrap .i64 (((l.getD i.toNat (0, 0)).2) * ((l.getD i.toNat (0, 0)).2))))) (IntKind.wrap .i64 (sum + (IntKind.wrap .i64 (Int.tdiv (IntKind.wrap .i64 (((l.getD i.toNat (0, 0)).1) * 1024)) ((l.getD i.toNat (0, 0)).2))))) (IntKind.wrap .i64 (i + 1))
        else none
        else none
        else none
      else
        if (0 : Int) ≤ i ∧ i < (((l).length : Nat) : Int) then
        if (0 : Int) ≤ i ∧ i < (((l).length : Nat) : Int) then
        if (((l.getD i.toNat (0, 0)).2) : Int) ≠ 0 then
        f39_broughamref13_Alpha_L4 n l best (IntKind.wrap .i64 (sum + (IntKind.wrap .i64 (Int.tdiv (IntKind.wrap .i64 (((l.getD i.toNat (0, 0)).1) * 1024)) ((l.getD i.toNat (0, 0)).2))))) (IntKind.wrap .i64 (i + 1))
        else none
        else none
        else none
      else none
      else none
      else none
      else none
    else
      some ((l, best, sum))
def f39_broughamref13_Alpha_L4_k (e : (List (Int × Int)) × Int × Int) (o : Out) : Prop := At Go.Proofs.Try.prog Go.Proofs.Try.f39 0 10 ⟨[(3, .one (.c (.own 0 (.pair (.int .i64) (.int .i64)) e.1))), (4, .one (.c (.d (.int .i64 e.2.1)))), (5, .one (.c (.d (.int .i64 e.2.2))))], [(0, some ⟨109, 0⟩)], [], 1⟩ o
theorem f39_broughamref13_Alpha_L4_ok (n : Nat) : ∀ (l : List (Int × Int)) (best : Int) (sum : Int) (i : Int) (w : (List (Int × Int)) × Int × Int) (h : f39_broughamref13_Alpha_L4 n l best sum i = some w) (o : Out) (hk : f39_broughamref13_Alpha_L4_k w o), At Go.Proofs.Try.prog Go.Proofs.Try.f39 0 4 ⟨[(3, .one (.c (.own 0 (.pair (.int .i64) (.int .i64)) l))), (4, .one (.c (.d (.int .i64 best)))), (5, .one (.c (.d (.int .i64 sum)))), (6, .one (.c (.d (.int .i64 i))))], [(0, some ⟨109, 0⟩)], [], 1⟩ o := by
  induction n with
  | zero => intro l best sum i w h; rw [f39_broughamref13_Alpha_L4] at h; cases h
  | succ n ih =>
    intro l best sum i w h o hk
    rw [f39_broughamref13_Alpha_L4] at h
    rcases iteS h with ⟨b66_e0, h⟩ | ⟨b66_e0, h⟩
    · refine At.step hm ht ⟨[], [true], [], [3, 4, 5, 6], [0]⟩ 6 ⟨[(3, .one (.c (.own 0 (.pair (.int .i64) (.int .i64)) l))), (4, .one (.c (.d (.int .i64 best)))), (5, .one (.c (.d (.int .i64 sum)))), (6, .one (.c (.d (.int .i64 i))))], [(0, some ⟨109, 0⟩)], [], 1⟩ [(decide ((i : Int) < ((l.length : Nat) : Int))) = true] (by kernel_rfl) ⟨b66_e0, trivial⟩ ?_
      obtain ⟨g67_0, h⟩ := ifS h
      obtain ⟨g67_1, h⟩ := ifS h
      obtain ⟨g67_2, h⟩ := ifS h
      obtain ⟨g67_3, h⟩ := ifS h
      refine At.step hm ht ⟨[], [], [], [3, 4, 5, 6, 7], [0]⟩ 7 ⟨[(3, .one (.c (.own 0 (.pair (.int .i64) (.int .i64)) l))), (4, .one (.c (.d (.int .i64 best)))), (5, .one (.c (.d (.int .i64 sum)))), (6, .one (.c (.d (.int .i64 i)))), (7, .one (.c (.d (.int .i64 (IntKind.wrap .i64 (Int.tdiv (IntKind.wrap .i64 (((l.getD i.toNat (0, 0)).1) * 1024)) (IntKind.wrap .i64 (((l.getD i.toNat (0, 0)).2) * ((l.getD i.toNat (0, 0)).2)))))))))], [(0, some ⟨109, 0⟩)], [], 1⟩ [(0 : Int) ≤ i ∧ i < (((l).length : Nat) : Int), (0 : Int) ≤ i ∧ i < (((l).length : Nat) : Int), (0 : Int) ≤ i ∧ i < (((l).length : Nat) : Int), ((IntKind.wrap .i64 (((l.getD i.toNat (0, 0)).2) * ((l.getD i.toNat (0, 0)).2))) : Int) ≠ 0] (by kernel_rfl) ⟨g67_0, g67_1, g67_2, g67_3, trivial⟩ ?_
      rcases iteS h with ⟨b68_e0, h⟩ | ⟨b68_e0, h⟩
      · refine At.step hm ht ⟨[], [true], [], [3, 5, 6, 7], [0]⟩ 8 ⟨[(3, .one (.c (.own 0 (.pair (.int .i64) (.int .i64)) l))), (5, .one (.c (.d (.int .i64 sum)))), (6, .one (.c (.d (.int .i64 i)))), (7, .one (.c (.d (.int .i64 (IntKind.wrap .i64 (Int.tdiv (IntKind.wrap .i64 (((l.getD i.toNat (0, 0)).1) * 1024)) (IntKind.wrap .i64 (((l.getD i.toNat (0, 0)).2) * ((l.getD i.toNat (0, 0)).2)))))))))], [(0, some ⟨109, 0⟩)], [], 1⟩ [(decide (((IntKind.wrap .i64 (Int.tdiv (IntKind.wrap .i64 (((l.getD i.toNat (0, 0)).1) * 1024)) (IntKind.wrap .i64 (((l.getD i.toNat (0, 0)).2) * ((l.getD i.toNat (0, 0)).2))))) : Int) > best)) = true] (by kernel_rfl) ⟨b68_e0, trivial⟩ ?_
        refine At.step hm ht ⟨[], [], [], [3, 4, 5, 6], [0]⟩ 9 ⟨[(3, .one (.c (.own 0 (.pair (.int .i64) (.int .i64)) l))), (4, .one (.c (.d (.int .i64 (IntKind.wrap .i64 (Int.tdiv (IntKind.wrap .i64 (((l.getD i.toNat (0, 0)).1) * 1024)) (IntKind.wrap .i64 (((l.getD i.toNat (0, 0)).2) * ((l.getD i.toNat (0, 0)).2))))))))), (5, .one (.c (.d (.int .i64 sum)))), (6, .one (.c (.d (.int .i64 i))))], [(0, some ⟨109, 0⟩)], [], 1⟩ [] (by kernel_rfl) trivial ?_
        obtain ⟨g70_0, h⟩ := ifS h
        obtain ⟨g70_1, h⟩ := ifS h
        obtain ⟨g70_2, h⟩ := ifS h
        refine At.step hm ht ⟨[], [], [], [3, 4, 5, 6], [0]⟩ 5 ⟨[(3, .one (.c (.own 0 (.pair (.int .i64) (.int .i64)) l))), (4, .one (.c (.d (.int .i64 (IntKind.wrap .i64 (Int.tdiv (IntKind.wrap .i64 (((l.getD i.toNat (0, 0)).1) * 1024)) (IntKind.wrap .i64 (((l.getD i.toNat (0, 0)).2) * ((l.getD i.toNat (0, 0)).2))))))))), (5, .one (.c (.d (.int .i64 (IntKind.wrap .i64 (sum + (IntKind.wrap .i64 (Int.tdiv (IntKind.wrap .i64 (((l.getD i.toNat (0, 0)).1) * 1024)) ((l.getD i.toNat (0, 0)).2))))))))), (6, .one (.c (.d (.int .i64 i))))], [(0, some ⟨109, 0⟩)], [], 1⟩ [(0 : Int) ≤ i ∧ i < (((l).length : Nat) : Int), (0 : Int) ≤ i ∧ i < (((l).length : Nat) : Int), (((l.getD i.toNat (0, 0)).2) : Int) ≠ 0] (by kernel_rfl) ⟨g70_0, g70_1, g70_2, trivial⟩ ?_
        refine At.step hm ht ⟨[], [], [], [3, 4, 5, 6], [0]⟩ 4 ⟨[(3, .one (.c (.own 0 (.pair (.int .i64) (.int .i64)) l))), (4, .one (.c (.d (.int .i64 (IntKind.wrap .i64 (Int.tdiv (IntKind.wrap .i64 (((l.getD i.toNat (0, 0)).1) * 1024)) (IntKind.wrap .i64 (((l.getD i.toNat (0, 0)).2) * ((l.getD i.toNat (0, 0)).2))))))))), (5, .one (.c (.d (.int .i64 (IntKind.wrap .i64 (sum + (IntKind.wrap .i64 (Int.tdiv (IntKind.wrap .i64 (((l.getD i.toNat (0, 0)).1) * 1024)) ((l.getD i.toNat (0, 0)).2))))))))), (6, .one (.c (.d (.int .i64 (IntKind.wrap .i64 (i + 1))))))], [(0, some ⟨109, 0⟩)], [], 1⟩ [] (by kernel_rfl) trivial ?_
        exact ih l (IntKind.wrap .i64 (Int.tdiv (IntKind.wrap .i64 (((l.getD i.toNat (0, 0)).1) * 1024)) (IntKind.wrap .i64 (((l.getD i.toNat (0, 0)).2) * ((l.getD i.toNat (0, 0)).2))))) (IntKind.wrap .i64 (sum + (IntKind.wrap .i64 (Int.tdiv (IntKind.wrap .i64 (((l.getD i.toNat (0, 0)).1) * 1024)) ((l.getD i.toNat (0, 0)).2))))) (IntKind.wrap .i64 (i + 1)) w h o hk
      · refine At.step hm ht ⟨[], [false], [], [3, 4, 5, 6], [0]⟩ 9 ⟨[(3, .one (.c (.own 0 (.pair (.int .i64) (.int .i64)) l))), (4, .one (.c (.d (.int .i64 best)))), (5, .one (.c (.d (.int .i64 sum)))), (6, .one (.c (.d (.int .i64 i))))], [(0, some ⟨109, 0⟩)], [], 1⟩ [(decide (((IntKind.wrap .i64 (Int.tdiv (IntKind.wrap .i64 (((l.getD i.toNat (0, 0)).1) * 1024)) (IntKind.wrap .i64 (((l.getD i.toNat (0, 0)).2) * ((l.getD i.toNat (0, 0)).2))))) : Int) > best)) = false] (by kernel_rfl) ⟨b68_e0, trivial⟩ ?_
        obtain ⟨g72_0, h⟩ := ifS h
        obtain ⟨g72_1, h⟩ := ifS h
        obtain ⟨g72_2, h⟩ := ifS h
        refine At.step hm ht ⟨[], [], [], [3, 4, 5, 6], [0]⟩ 5 ⟨[(3, .one (.c (.own 0 (.pair (.int .i64) (.int .i64)) l))), (4, .one (.c (.d (.int .i64 best)))), (5, .one (.c (.d (.int .i64 (IntKind.wrap .i64 (sum + (IntKind.wrap .i64 (Int.tdiv (IntKind.wrap .i64 (((l.getD i.toNat (0, 0)).1) * 1024)) ((l.getD i.toNat (0, 0)).2))))))))), (6, .one (.c (.d (.int .i64 i))))], [(0, some ⟨109, 0⟩)], [], 1⟩ [(0 : Int) ≤ i ∧ i < (((l).length : Nat) : Int), (0 : Int) ≤ i ∧ i < (((l).length : Nat) : Int), (((l.getD i.toNat (0, 0)).2) : Int) ≠ 0] (by kernel_rfl) ⟨g72_0, g72_1, g72_2, trivial⟩ ?_
        refine At.step hm ht ⟨[], [], [], [3, 4, 5, 6], [0]⟩ 4 ⟨[(3, .one (.c (.own 0 (.pair (.int .i64) (.int .i64)) l))), (4, .one (.c (.d (.int .i64 best)))), (5, .one (.c (.d (.int .i64 (IntKind.wrap .i64 (sum + (IntKind.wrap .i64 (Int.tdiv (IntKind.wrap .i64 (((l.getD i.toNat (0, 0)).1) * 1024)) ((l.getD i.toNat (0, 0)).2))))))))), (6, .one (.c (.d (.int .i64 (IntKind.wrap .i64 (i + 1))))))], [(0, some ⟨109, 0⟩)], [], 1⟩ [] (by kernel_rfl) trivial ?_
        exact ih l best (IntKind.wrap .i64 (sum + (IntKind.wrap .i64 (Int.tdiv (IntKind.wrap .i64 (((l.getD i.toNat (0, 0)).1) * 1024)) ((l.getD i.toNat (0, 0)).2))))) (IntKind.wrap .i64 (i + 1)) w h o hk
    · refine At.step hm ht ⟨[], [false], [], [3, 4, 5], [0]⟩ 10 ⟨[(3, .one (.c (.own 0 (.pair (.int .i64) (.int .i64)) l))), (4, .one (.c (.d (.int .i64 best)))), (5, .one (.c (.d (.int .i64 sum))))], [(0, some ⟨109, 0⟩)], [], 1⟩ [(decide ((i : Int) < ((l.length : Nat) : Int))) = false] (by kernel_rfl) ⟨b66_e0, trivial⟩ ?_
      have h := Option.some.inj h
      subst h
      exact hk
def f39_broughamref13_Alpha (n : Nat) (all : List (Int × Int)) : Option (Int) :=
  (f70_broughamref13_paths n all).bind fun r42_0 =>
  (f39_broughamref13_Alpha_L4 n r42_0 0 0 0).bind fun w74 =>
  if ((w74.2.1 : Int) == 0) = true then
    some 1024
  else
    if (((IntKind.wrap .i64 (Int.tdiv w74.2.2 1024)) : Int) == 0) = true then
      some 1024
    else
      (f72_broughamref13_total n w74.1).bind fun r80_0 =>
      if ((IntKind.wrap .i64 ((IntKind.wrap .i64 (Int.tdiv w74.2.2 1024)) * (IntKind.wrap .i64 (Int.tdiv w74.2.2 1024)))) : Int) ≠ 0 then
      (f71_broughamref13_within (IntKind.wrap .i64 (Int.tdiv (IntKind.wrap .i64 (r80_0 * w74.2.1)) (IntKind.wrap .i64 ((IntKind.wrap .i64 (Int.tdiv w74.2.2 1024)) * (IntKind.wrap .i64 (Int.tdiv w74.2.2 1024)))))) 1 65536).bind fun r80_2 =>
      some r80_2
      else none
theorem f39_broughamref13_Alpha_ok (n : Nat) (all : List (Int × Int)) (r : Int) (h : f39_broughamref13_Alpha n all = some r) : FnOK Go.Proofs.Try.prog 39 (f39_broughamref13_Alpha_in all) (f39_broughamref13_Alpha_out r) := by
  unfold f39_broughamref13_Alpha at h
  refine At.fn (r := 0) Go.Proofs.Try.func39 rfl (by kernel_rfl) rfl rfl (by kernel_rfl) ?_
  show At Go.Proofs.Try.prog Go.Proofs.Try.f39 0 0 ⟨[(0, .one (.c (.d (.sl (.pair (.int .i64) (.int .i64)) all))))], [], [], 0⟩ _
  refine At.step hm ht ⟨[], [], [], [0], []⟩ 1 ⟨[(0, .one (.c (.d (.sl (.pair (.int .i64) (.int .i64)) all))))], [], [], 0⟩ [] (by kernel_rfl) trivial ?_
  obtain ⟨r42_0, cr42_0, h⟩ := bindS h
  refine At.step hm ht ⟨[(1, .call [] [] (f70_broughamref13_paths_out r42_0))], [], [], [3], [1]⟩ 2 ⟨[(3, .one (.c (.own 0 (.pair (.int .i64) (.int .i64)) r42_0)))], [(0, some ⟨109, 0⟩)], [], 1⟩ [FnOK Go.Proofs.Try.prog 70 (f70_broughamref13_paths_in all) (f70_broughamref13_paths_out r42_0)] (by kernel_rfl) ⟨(f70_broughamref13_paths_ok n all r42_0 cr42_0), trivial⟩ ?_
  refine At.step hm ht ⟨[], [], [], [3, 4, 5], [0]⟩ 3 ⟨[(3, .one (.c (.own 0 (.pair (.int .i64) (.int .i64)) r42_0))), (4, .one (.c (.d (.int .i64 0)))), (5, .one (.c (.d (.int .i64 0))))], [(0, some ⟨109, 0⟩)], [], 1⟩ [] (by kernel_rfl) trivial ?_
  refine At.step hm ht ⟨[], [], [], [3, 4, 5, 6], [0]⟩ 4 ⟨[(3, .one (.c (.own 0 (.pair (.int .i64) (.int .i64)) r42_0))), (4, .one (.c (.d (.int .i64 0)))), (5, .one (.c (.d (.int .i64 0)))), (6, .one (.c (.d (.int .i64 0))))], [(0, some ⟨109, 0⟩)], [], 1⟩ [] (by kernel_rfl) trivial ?_
  obtain ⟨w74, cw74, h⟩ := bindS h
  refine f39_broughamref13_Alpha_L4_ok n r42_0 0 0 0 w74 cw74 _ ?_
  show At Go.Proofs.Try.prog Go.Proofs.Try.f39 0 10 ⟨[(3, .one (.c (.own 0 (.pair (.int .i64) (.int .i64)) w74.1))), (4, .one (.c (.d (.int .i64 w74.2.1)))), (5, .one (.c (.d (.int .i64 w74.2.2))))], [(0, some ⟨109, 0⟩)], [], 1⟩ _
  refine At.step hm ht ⟨[], [], [], [3, 4, 5], [0]⟩ 11 ⟨[(3, .one (.c (.own 0 (.pair (.int .i64) (.int .i64)) w74.1))), (4, .one (.c (.d (.int .i64 w74.2.1)))), (5, .one (.c (.d (.int .i64 (IntKind.wrap .i64 (Int.tdiv w74.2.2 1024))))))], [(0, some ⟨109, 0⟩)], [], 1⟩ [(1024 : Int) ≠ 0] (by kernel_rfl) ⟨(by decide), trivial⟩ ?_
  rcases iteS h with ⟨b77_2, h⟩ | ⟨b77_2, h⟩
  · refine At.step hm ht ⟨[(2, .b true)], [true], [], [], []⟩ 12 ⟨[], [], [], 0⟩ [((w74.2.1 : Int) == 0) = true, true = true] (by kernel_rfl) ⟨b77_2, rfl, trivial⟩ ?_
    have h := Option.some.inj h
    subst h
    exact At.fin hm ht ⟨[], [], [], [2], []⟩ [] (by kernel_rfl) trivial
  · rcases iteS h with ⟨b77_e0, h⟩ | ⟨b77_e0, h⟩
    · refine At.step hm ht ⟨[(2, .b false)], [true], [], [], []⟩ 12 ⟨[], [], [], 0⟩ [((w74.2.1 : Int) == 0) = false, (((IntKind.wrap .i64 (Int.tdiv w74.2.2 1024)) : Int) == 0) = true] (by kernel_rfl) ⟨b77_2, b77_e0, trivial⟩ ?_
      have h := Option.some.inj h
      subst h
      exact At.fin hm ht ⟨[], [], [], [2], []⟩ [] (by kernel_rfl) trivial
    · refine At.step hm ht ⟨[(2, .b false)], [false], [], [3, 4, 5], [0]⟩ 13 ⟨[(3, .one (.c (.own 0 (.pair (.int .i64) (.int .i64)) w74.1))), (4, .one (.c (.d (.int .i64 w74.2.1)))), (5, .one (.c (.d (.int .i64 (IntKind.wrap .i64 (Int.tdiv w74.2.2 1024))))))], [(0, some ⟨109, 0⟩)], [], 1⟩ [((w74.2.1 : Int) == 0) = false, (((IntKind.wrap .i64 (Int.tdiv w74.2.2 1024)) : Int) == 0) = false] (by kernel_rfl) ⟨b77_2, b77_e0, trivial⟩ ?_
      obtain ⟨r80_0, cr80_0, h⟩ := bindS h
      obtain ⟨g80_1, h⟩ := ifS h
      obtain ⟨r80_2, cr80_2, h⟩ := bindS h
      have h := Option.some.inj h
      subst h
      exact At.fin hm ht ⟨[(1, .call [] [] (f72_broughamref13_total_out r80_0)), (8, .call [] [] (f71_broughamref13_within_out r80_2))], [], [], [2], []⟩ [FnOK Go.Proofs.Try.prog 72 (f72_broughamref13_total_in w74.1) (f72_broughamref13_total_out r80_0), ((IntKind.wrap .i64 ((IntKind.wrap .i64 (Int.tdiv w74.2.2 1024)) * (IntKind.wrap .i64 (Int.tdiv w74.2.2 1024)))) : Int) ≠ 0, FnOK Go.Proofs.Try.prog 71 (f71_broughamref13_within_in (IntKind.wrap .i64 (Int.tdiv (IntKind.wrap .i64 (r80_0 * w74.2.1)) (IntKind.wrap .i64 ((IntKind.wrap .i64 (Int.tdiv w74.2.2 1024)) * (IntKind.wrap .i64 (Int.tdiv w74.2.2 1024)))))) 1 65536) (f71_broughamref13_within_out r80_2)] (by kernel_rfl) ⟨(f72_broughamref13_total_ok n w74.1 r80_0 cr80_0), g80_1, (f71_broughamref13_within_ok (IntKind.wrap .i64 (Int.tdiv (IntKind.wrap .i64 (r80_0 * w74.2.1)) (IntKind.wrap .i64 ((IntKind.wrap .i64 (Int.tdiv w74.2.2 1024)) * (IntKind.wrap .i64 (Int.tdiv w74.2.2 1024)))))) 1 65536 r80_2 cr80_2), trivial⟩
/-! brougham/cwnd.New -/
def f42_cwnd_New_in (mss : Int) : Inn := ⟨[.c (.d (.int .i64 mss))], [], [], 0⟩
def f42_cwnd_New_out (r : Int × Int × Int × Int × Int) : Out := ⟨.one (.c (.ptr 0 0)), [], [(0, [.d (.int .i64 r.1), .d (.int .i64 r.2.1), .d (.int .i64 r.2.2.1), .d (.int .i64 r.2.2.2.1), .d (.int .i64 r.2.2.2.2)])], 1⟩
def f42_cwnd_New (mss : Int) : Option (Int × Int × Int × Int × Int) :=
  some ((if 1024 < (if mss < 1 then 1 else mss) then 1024 else (if mss < 1 then 1 else mss)), (IntKind.wrap .i64 (4 * (if 1024 < (if mss < 1 then 1 else mss) then 1024 else (if mss < 1 then 1 else mss)))), (IntKind.wrap .i64 (64 * (if 1024 < (if mss < 1 then 1 else mss) then 1024 else (if mss < 1 then 1 else mss)))), 0, 0)
theorem f42_cwnd_New_ok (mss : Int) (r : Int × Int × Int × Int × Int) (h : f42_cwnd_New mss = some r) : FnOK Go.Proofs.Try.prog 42 (f42_cwnd_New_in mss) (f42_cwnd_New_out r) := by
  unfold f42_cwnd_New at h
  refine At.fn (r := 0) Go.Proofs.Try.func42 rfl (by kernel_rfl) rfl rfl (by kernel_rfl) ?_
  show At Go.Proofs.Try.prog Go.Proofs.Try.f42 0 0 ⟨[(0, .one (.c (.d (.int .i64 mss))))], [], [], 0⟩ _
  refine At.step hm ht ⟨[], [], [], [0], []⟩ 1 ⟨[(0, .one (.c (.d (.int .i64 mss))))], [], [], 0⟩ [] (by kernel_rfl) trivial ?_
  refine At.step hm ht ⟨[], [], [], [0], []⟩ 2 ⟨[(0, .one (.c (.d (.int .i64 (if 1024 < (if mss < 1 then 1 else mss) then 1024 else (if mss < 1 then 1 else mss))))))], [], [], 0⟩ [] (by kernel_rfl) trivial ?_
  have h := Option.some.inj h
  subst h
  exact At.fin hm ht ⟨[], [], [], [2], [6]⟩ [] (by kernel_rfl) trivial
/-! (*brougham/cwnd.Window).Size -/
def f44_cwnd_Window_Size_in (w_0 : Int) (w_1 : Int) (w_2 : Int) (w_3 : Int) (w_4 : Int) : Inn := ⟨[.c (.ptr 0 0)], [], [(0, [.d (.int .i64 w_0), .d (.int .i64 w_1), .d (.int .i64 w_2), .d (.int .i64 w_3), .d (.int .i64 w_4)])], 1⟩
def f44_cwnd_Window_Size_out (r : Int × Int × Int × Int × Int × Int) : Out := ⟨.one (.c (.d (.int .i64 r.1))), [], [(0, [.d (.int .i64 r.2.1), .d (.int .i64 r.2.2.1), .d (.int .i64 r.2.2.2.1), .d (.int .i64 r.2.2.2.2.1), .d (.int .i64 r.2.2.2.2.2)])], 1⟩
def f44_cwnd_Window_Size (w_0 : Int) (w_1 : Int) (w_2 : Int) (w_3 : Int) (w_4 : Int) : Option (Int × Int × Int × Int × Int × Int) :=
  some (w_1, w_0, w_1, w_2, w_3, w_4)
theorem f44_cwnd_Window_Size_ok (w_0 : Int) (w_1 : Int) (w_2 : Int) (w_3 : Int) (w_4 : Int) (r : Int × Int × Int × Int × Int × Int) (h : f44_cwnd_Window_Size w_0 w_1 w_2 w_3 w_4 = some r) : FnOK Go.Proofs.Try.prog 44 (f44_cwnd_Window_Size_in w_0 w_1 w_2 w_3 w_4) (f44_cwnd_Window_Size_out r) := by
  unfold f44_cwnd_Window_Size at h
  refine At.fn (r := 0) Go.Proofs.Try.func44 rfl (by kernel_rfl) rfl rfl (by kernel_rfl) ?_
  show At Go.Proofs.Try.prog Go.Proofs.Try.f44 1 0 ⟨[(0, .one (.c (.ptr 0 0)))], [], [(0, [.d (.int .i64 w_0), .d (.int .i64 w_1), .d (.int .i64 w_2), .d (.int .i64 w_3), .d (.int .i64 w_4)])], 1⟩ _
  refine At.step hm ht ⟨[], [], [], [0], [0]⟩ 1 ⟨[(0, .one (.c (.ptr 0 0)))], [], [(0, [.d (.int .i64 w_0), .d (.int .i64 w_1), .d (.int .i64 w_2), .d (.int .i64 w_3), .d (.int .i64 w_4)])], 1⟩ [] (by kernel_rfl) trivial ?_
  have h := Option.some.inj h
  subst h
  exact At.fin hm ht ⟨[], [], [], [2], [0]⟩ [] (by kernel_rfl) trivial
/-! (*brougham/cwnd.Window).Sent -/
def f47_cwnd_Window_Sent_in (n_ : Int) (w_0 : Int) (w_1 : Int) (w_2 : Int) (w_3 : Int) (w_4 : Int) : Inn := ⟨[.c (.ptr 0 0), .c (.d (.int .i64 n_))], [], [(0, [.d (.int .i64 w_0), .d (.int .i64 w_1), .d (.int .i64 w_2), .d (.int .i64 w_3), .d (.int .i64 w_4)])], 1⟩
def f47_cwnd_Window_Sent_out (r : Int × Int × Int × Int × Int) : Out := ⟨.tup [], [], [(0, [.d (.int .i64 r.1), .d (.int .i64 r.2.1), .d (.int .i64 r.2.2.1), .d (.int .i64 r.2.2.2.1), .d (.int .i64 r.2.2.2.2)])], 1⟩
def f47_cwnd_Window_Sent (n_ : Int) (w_0 : Int) (w_1 : Int) (w_2 : Int) (w_3 : Int) (w_4 : Int) : Option (Int × Int × Int × Int × Int) :=
  some (w_0, w_1, w_2, w_3, (IntKind.wrap .i64 (w_4 + (if 1024 < (if n_ < 0 then 0 else n_) then 1024 else (if n_ < 0 then 0 else n_)))))
theorem f47_cwnd_Window_Sent_ok (n_ : Int) (w_0 : Int) (w_1 : Int) (w_2 : Int) (w_3 : Int) (w_4 : Int) (r : Int × Int × Int × Int × Int) (h : f47_cwnd_Window_Sent n_ w_0 w_1 w_2 w_3 w_4 = some r) : FnOK Go.Proofs.Try.prog 47 (f47_cwnd_Window_Sent_in n_ w_0 w_1 w_2 w_3 w_4) (f47_cwnd_Window_Sent_out r) := by
  unfold f47_cwnd_Window_Sent at h
  refine At.fn (r := 0) Go.Proofs.Try.func47 rfl (by kernel_rfl) rfl rfl (by kernel_rfl) ?_
  show At Go.Proofs.Try.prog Go.Proofs.Try.f47 1 0 ⟨[(0, .one (.c (.ptr 0 0))), (1, .one (.c (.d (.int .i64 n_))))], [], [(0, [.d (.int .i64 w_0), .d (.int .i64 w_1), .d (.int .i64 w_2), .d (.int .i64 w_3), .d (.int .i64 w_4)])], 1⟩ _
  have h := Option.some.inj h
  subst h
  exact At.fin hm ht ⟨[], [], [], [], [0]⟩ [4 + 1 ≤ 5] (by kernel_rfl) ⟨(by decide), trivial⟩
/-! (*brougham/cwnd.Window).gone -/
def f73_cwnd_Window_gone_in (n_ : Int) (w_0 : Int) (w_1 : Int) (w_2 : Int) (w_3 : Int) (w_4 : Int) : Inn := ⟨[.c (.ptr 0 0), .c (.d (.int .i64 n_))], [], [(0, [.d (.int .i64 w_0), .d (.int .i64 w_1), .d (.int .i64 w_2), .d (.int .i64 w_3), .d (.int .i64 w_4)])], 1⟩
def f73_cwnd_Window_gone_out (r : Int × Int × Int × Int × Int) : Out := ⟨.tup [], [], [(0, [.d (.int .i64 r.1), .d (.int .i64 r.2.1), .d (.int .i64 r.2.2.1), .d (.int .i64 r.2.2.2.1), .d (.int .i64 r.2.2.2.2)])], 1⟩
def f73_cwnd_Window_gone (n_ : Int) (w_0 : Int) (w_1 : Int) (w_2 : Int) (w_3 : Int) (w_4 : Int) : Option (Int × Int × Int × Int × Int) :=
  some (w_0, w_1, w_2, w_3, (if (IntKind.wrap .i64 (w_4 - (if 1024 < (if n_ < 0 then 0 else n_) then 1024 else (if n_ < 0 then 0 else n_)))) < 0 then 0 else (IntKind.wrap .i64 (w_4 - (if 1024 < (if n_ < 0 then 0 else n_) then 1024 else (if n_ < 0 then 0 else n_))))))
theorem f73_cwnd_Window_gone_ok (n_ : Int) (w_0 : Int) (w_1 : Int) (w_2 : Int) (w_3 : Int) (w_4 : Int) (r : Int × Int × Int × Int × Int) (h : f73_cwnd_Window_gone n_ w_0 w_1 w_2 w_3 w_4 = some r) : FnOK Go.Proofs.Try.prog 73 (f73_cwnd_Window_gone_in n_ w_0 w_1 w_2 w_3 w_4) (f73_cwnd_Window_gone_out r) := by
  unfold f73_cwnd_Window_gone at h
  refine At.fn (r := 0) Go.Proofs.Try.func73 rfl (by kernel_rfl) rfl rfl (by kernel_rfl) ?_
  show At Go.Proofs.Try.prog Go.Proofs.Try.f73 1 0 ⟨[(0, .one (.c (.ptr 0 0))), (1, .one (.c (.d (.int .i64 n_))))], [], [(0, [.d (.int .i64 w_0), .d (.int .i64 w_1), .d (.int .i64 w_2), .d (.int .i64 w_3), .d (.int .i64 w_4)])], 1⟩ _
  have h := Option.some.inj h
  subst h
  exact At.fin hm ht ⟨[], [], [], [], [0]⟩ [4 + 1 ≤ 5] (by kernel_rfl) ⟨(by decide), trivial⟩
/-! (*brougham/cwnd.Window).Acked -/
def f43_cwnd_Window_Acked_in (n_ : Int) (l : List (Int × Int)) (w_0 : Int) (w_1 : Int) (w_2 : Int) (w_3 : Int) (w_4 : Int) : Inn := ⟨[.c (.ptr 0 0), .c (.d (.int .i64 n_)), .c (.d (.sl (.pair (.int .i64) (.int .i64)) l))], [], [(0, [.d (.int .i64 w_0), .d (.int .i64 w_1), .d (.int .i64 w_2), .d (.int .i64 w_3), .d (.int .i64 w_4)])], 1⟩
def f43_cwnd_Window_Acked_out (r : Int × Int × Int × Int × Int) : Out := ⟨.tup [], [], [(0, [.d (.int .i64 r.1), .d (.int .i64 r.2.1), .d (.int .i64 r.2.2.1), .d (.int .i64 r.2.2.2.1), .d (.int .i64 r.2.2.2.2)])], 1⟩
def f43_cwnd_Window_Acked_L7 : Nat → Int → (List (Int × Int)) → Int → Int → (List (Int × Int)) → Int → Int → Int → Int → Int → Int → Int → Option (Int × (List (Int × Int)) × Int × Int × Int × Int × Int × Int × Int)
  | 0, _, _, _, _, _, _, _, _, _, _, _, _ => none
  | n + 1, n_, l, most, total, t43, t44, t45, w_0, w_1, w_2, w_3, w_4 =>
    if (decide ((t45 : Int) < t44)) = true then
      if (0 : Int) ≤ t45 ∧ t45 < (((t43).length : Nat) : Int) then
      f43_cwnd_Window_Acked_L7 n n_ l most (IntKind.wrap .i64 (total + (if 65536 < (if ((t43.getD t45.toNat (0, 0)).1) < 1 then 1 else ((t43.getD t45.toNat (0, 0)).1)) then 65536 else (if ((t43.getD t45.toNat (0, 0)).1) < 1 then 1 else ((t43.getD t45.toNat (0, 0)).1))))) t43 t44 (IntKind.wrap .i64 (t45 + 1)) w_0 w_1 w_2 w_3 w_4
      else none
    else
      some ((n_, l, most, total, w_0, w_1, w_2, w_3, w_4))
def f43_cwnd_Window_Acked_L7_k (e : Int × (List (Int × Int)) × Int × Int × Int × Int × Int × Int × Int) (o : Out) : Prop := At Go.Proofs.Try.prog Go.Proofs.Try.f43 1 11 ⟨[(0, .one (.c (.ptr 0 0))), (1, .one (.c (.d (.int .i64 e.1)))), (2, .one (.c (.d (.sl (.pair (.int .i64) (.int .i64)) e.2.1)))), (6, .one (.c (.d (.int .i64 e.2.2.1)))), (7, .one (.c (.d (.int .i64 e.2.2.2.1))))], [], [(0, [.d (.int .i64 e.2.2.2.2.1), .d (.int .i64 e.2.2.2.2.2.1), .d (.int .i64 e.2.2.2.2.2.2.1), .d (.int .i64 e.2.2.2.2.2.2.2.1), .d (.int .i64 e.2.2.2.2.2.2.2.2)])], 1⟩ o
theorem f43_cwnd_Window_Acked_L7_ok (n : Nat) : ∀ (n_ : Int) (l : List (Int × Int)) (most : Int) (total : Int) (t43 : List (Int × Int)) (t44 : Int) (t45 : Int) (w_0 : Int) (w_1 : Int) (w_2 : Int) (w_3 : Int) (w_4 : Int) (w : Int × (List (Int × Int)) × Int × Int × Int × Int × Int × Int × Int) (h : f43_cwnd_Window_Acked_L7 n n_ l most total t43 t44 t45 w_0 w_1 w_2 w_3 w_4 = some w) (o : Out) (hk : f43_cwnd_Window_Acked_L7_k w o), At Go.Proofs.Try.prog Go.Proofs.Try.f43 1 7 ⟨[(0, .one (.c (.ptr 0 0))), (1, .one (.c (.d (.int .i64 n_)))), (2, .one (.c (.d (.sl (.pair (.int .i64) (.int .i64)) l)))), (6, .one (.c (.d (.int .i64 most)))), (7, .one (.c (.d (.int .i64 total)))), (43, .one (.c (.d (.sl (.pair (.int .i64) (.int .i64)) t43)))), (44, .one (.c (.d (.int .i64 t44)))), (45, .one (.c (.d (.int .i64 t45))))], [], [(0, [.d (.int .i64 w_0), .d (.int .i64 w_1), .d (.int .i64 w_2), .d (.int .i64 w_3), .d (.int .i64 w_4)])], 1⟩ o := by
  induction n with
  | zero => intro n_ l most total t43 t44 t45 w_0 w_1 w_2 w_3 w_4 w h; rw [f43_cwnd_Window_Acked_L7] at h; cases h
  | succ n ih =>
    intro n_ l most total t43 t44 t45 w_0 w_1 w_2 w_3 w_4 w h o hk
    rw [f43_cwnd_Window_Acked_L7] at h
    rcases iteS h with ⟨b110_e0, h⟩ | ⟨b110_e0, h⟩
    · refine At.step hm ht ⟨[], [true], [], [0, 1, 2, 6, 7, 43, 44, 45], [0]⟩ 8 ⟨[(0, .one (.c (.ptr 0 0))), (1, .one (.c (.d (.int .i64 n_)))), (2, .one (.c (.d (.sl (.pair (.int .i64) (.int .i64)) l)))), (6, .one (.c (.d (.int .i64 most)))), (7, .one (.c (.d (.int .i64 total)))), (43, .one (.c (.d (.sl (.pair (.int .i64) (.int .i64)) t43)))), (44, .one (.c (.d (.int .i64 t44)))), (45, .one (.c (.d (.int .i64 t45))))], [], [(0, [.d (.int .i64 w_0), .d (.int .i64 w_1), .d (.int .i64 w_2), .d (.int .i64 w_3), .d (.int .i64 w_4)])], 1⟩ [(decide ((t45 : Int) < t44)) = true] (by kernel_rfl) ⟨b110_e0, trivial⟩ ?_
      obtain ⟨g111_0, h⟩ := ifS h
      refine At.step hm ht ⟨[], [], [], [0, 1, 2, 6, 7, 9, 43, 44, 45], [0, 3]⟩ 9 ⟨[(0, .one (.c (.ptr 0 0))), (1, .one (.c (.d (.int .i64 n_)))), (2, .one (.c (.d (.sl (.pair (.int .i64) (.int .i64)) l)))), (6, .one (.c (.d (.int .i64 most)))), (7, .one (.c (.d (.int .i64 total)))), (9, .one (.c (.ptr 1 0))), (43, .one (.c (.d (.sl (.pair (.int .i64) (.int .i64)) t43)))), (44, .one (.c (.d (.int .i64 t44)))), (45, .one (.c (.d (.int .i64 t45))))], [], [(0, [.d (.int .i64 w_0), .d (.int .i64 w_1), .d (.int .i64 w_2), .d (.int .i64 w_3), .d (.int .i64 w_4)]), (1, [.d (.int .i64 ((t43.getD t45.toNat (0, 0)).1)), .d (.int .i64 ((t43.getD t45.toNat (0, 0)).2))])], 2⟩ [(0 : Int) ≤ t45 ∧ t45 < (((t43).length : Nat) : Int), 0 + 2 ≤ 2] (by kernel_rfl) ⟨g111_0, (by decide), trivial⟩ ?_
      refine At.step hm ht ⟨[], [], [], [0, 1, 2, 6, 7, 43, 44, 45], [0]⟩ 10 ⟨[(0, .one (.c (.ptr 0 0))), (1, .one (.c (.d (.int .i64 n_)))), (2, .one (.c (.d (.sl (.pair (.int .i64) (.int .i64)) l)))), (6, .one (.c (.d (.int .i64 most)))), (7, .one (.c (.d (.int .i64 (IntKind.wrap .i64 (total + (if 65536 < (if ((t43.getD t45.toNat (0, 0)).1) < 1 then 1 else ((t43.getD t45.toNat (0, 0)).1)) then 65536 else (if ((t43.getD t45.toNat (0, 0)).1) < 1 then 1 else ((t43.getD t45.toNat (0, 0)).1))))))))), (43, .one (.c (.d (.sl (.pair (.int .i64) (.int .i64)) t43)))), (44, .one (.c (.d (.int .i64 t44)))), (45, .one (.c (.d (.int .i64 t45))))], [], [(0, [.d (.int .i64 w_0), .d (.int .i64 w_1), .d (.int .i64 w_2), .d (.int .i64 w_3), .d (.int .i64 w_4)])], 1⟩ [] (by kernel_rfl) trivial ?_
      refine At.step hm ht ⟨[], [], [], [0, 1, 2, 6, 7, 43, 44, 45], [0]⟩ 7 ⟨[(0, .one (.c (.ptr 0 0))), (1, .one (.c (.d (.int .i64 n_)))), (2, .one (.c (.d (.sl (.pair (.int .i64) (.int .i64)) l)))), (6, .one (.c (.d (.int .i64 most)))), (7, .one (.c (.d (.int .i64 (IntKind.wrap .i64 (total + (if 65536 < (if ((t43.getD t45.toNat (0, 0)).1) < 1 then 1 else ((t43.getD t45.toNat (0, 0)).1)) then 65536 else (if ((t43.getD t45.toNat (0, 0)).1) < 1 then 1 else ((t43.getD t45.toNat (0, 0)).1))))))))), (43, .one (.c (.d (.sl (.pair (.int .i64) (.int .i64)) t43)))), (44, .one (.c (.d (.int .i64 t44)))), (45, .one (.c (.d (.int .i64 (IntKind.wrap .i64 (t45 + 1))))))], [], [(0, [.d (.int .i64 w_0), .d (.int .i64 w_1), .d (.int .i64 w_2), .d (.int .i64 w_3), .d (.int .i64 w_4)])], 1⟩ [] (by kernel_rfl) trivial ?_
      exact ih n_ l most (IntKind.wrap .i64 (total + (if 65536 < (if ((t43.getD t45.toNat (0, 0)).1) < 1 then 1 else ((t43.getD t45.toNat (0, 0)).1)) then 65536 else (if ((t43.getD t45.toNat (0, 0)).1) < 1 then 1 else ((t43.getD t45.toNat (0, 0)).1))))) t43 t44 (IntKind.wrap .i64 (t45 + 1)) w_0 w_1 w_2 w_3 w_4 w h o hk
    · refine At.step hm ht ⟨[], [false], [], [0, 1, 2, 6, 7], [0]⟩ 11 ⟨[(0, .one (.c (.ptr 0 0))), (1, .one (.c (.d (.int .i64 n_)))), (2, .one (.c (.d (.sl (.pair (.int .i64) (.int .i64)) l)))), (6, .one (.c (.d (.int .i64 most)))), (7, .one (.c (.d (.int .i64 total))))], [], [(0, [.d (.int .i64 w_0), .d (.int .i64 w_1), .d (.int .i64 w_2), .d (.int .i64 w_3), .d (.int .i64 w_4)])], 1⟩ [(decide ((t45 : Int) < t44)) = false] (by kernel_rfl) ⟨b110_e0, trivial⟩ ?_
      have h := Option.some.inj h
      subst h
      exact hk
def f43_cwnd_Window_Acked (n : Nat) (n_ : Int) (l : List (Int × Int)) (w_0 : Int) (w_1 : Int) (w_2 : Int) (w_3 : Int) (w_4 : Int) : Option (Int × Int × Int × Int × Int) :=
  (f73_cwnd_Window_gone (if 1024 < (if n_ < 0 then 0 else n_) then 1024 else (if n_ < 0 then 0 else n_)) w_0 w_1 w_2 w_3 w_4).bind fun r103_0 =>
  if (decide ((r103_0.2.1 : Int) < r103_0.2.2.1)) = true then
    some (r103_0.1, (if (IntKind.wrap .i64 (64 * r103_0.1)) < (IntKind.wrap .i64 (r103_0.2.1 + (if 1024 < (if n_ < 0 then 0 else n_) then 1024 else (if n_ < 0 then 0 else n_)))) then (IntKind.wrap .i64 (64 * r103_0.1)) else (IntKind.wrap .i64 (r103_0.2.1 + (if 1024 < (if n_ < 0 then 0 else n_) then 1024 else (if n_ < 0 then 0 else n_))))), r103_0.2.2.1, r103_0.2.2.2.1, r103_0.2.2.2.2)
  else
    (f69_cwnd_first l).bind fun r109_0 =>
    (f43_cwnd_Window_Acked_L7 n (if 1024 < (if n_ < 0 then 0 else n_) then 1024 else (if n_ < 0 then 0 else n_)) l (IntKind.wrap .i64 (64 * r103_0.1)) 0 r109_0 ((r109_0.length : Nat) : Int) 0 r103_0.1 r103_0.2.1 r103_0.2.2.1 r103_0.2.2.2.1 r103_0.2.2.2.2).bind fun w114 =>
    (f38_cwnd_Alpha n w114.2.1).bind fun r117_0 =>
    if ((if w114.2.2.2.1 < w114.2.2.2.2.2.1 then w114.2.2.2.2.2.1 else w114.2.2.2.1) : Int) ≠ 0 then
    if (w114.2.2.2.2.2.1 : Int) ≠ 0 then
    some (w114.2.2.2.2.1, (if w114.2.2.1 < (IntKind.wrap .i64 (w114.2.2.2.2.2.1 + (IntKind.wrap .i64 (Int.tdiv (IntKind.wrap .i64 (w114.2.2.2.2.2.2.2.1 + (if (IntKind.wrap .i64 (Int.tdiv (IntKind.wrap .i64 ((IntKind.wrap .i64 (1024 * w114.1)) * w114.2.2.2.2.1)) w114.2.2.2.2.2.1)) < (IntKind.wrap .i64 (Int.tdiv (IntKind.wrap .i64 ((IntKind.wrap .i64 (r117_0 * w114.1)) * w114.2.2.2.2.1)) (if w114.2.2.2.1 < w114.2.2.2.2.2.1 then w114.2.2.2.2.2.1 else w114.2.2.2.1))) then (IntKind.wrap .i64 (Int.tdiv (IntKind.wrap .i64 ((IntKind.wrap .i64 (1024 * w114.1)) * w114.2.2.2.2.1)) w114.2.2.2.2.2.1)) else (IntKind.wrap .i64 (Int.tdiv (IntKind.wrap .i64 ((IntKind.wrap .i64 (r117_0 * w114.1)) * w114.2.2.2.2.1)) (if w114.2.2.2.1 < w114.2.2.2.2.2.1 then w114.2.2.2.2.2.1 else w114.2.2.2.1)))))) 1024)))) then w114.2.2.1 else (IntKind.wrap .i64 (w114.2.2.2.2.2.1 + (IntKind.wrap .i64 (Int.tdiv (IntKind.wrap .i64 (w114.2.2.2.2.2.2.2.1 + (if (IntKind.wrap .i64 (Int.tdiv (IntKind.wrap .i64 ((IntKind.wrap .i64 (1024 * w114.1)) * w114.2.2.2.2.1)) w114.2.2.2.2.2.1)) < (IntKind.wrap .i64 (Int.tdiv (IntKind.wrap .i64 ((IntKind.wrap .i64 (r117_0 * w114.1)) * w114.2.2.2.2.1)) (if w114.2.2.2.1 < w114.2.2.2.2.2.1 then w114.2.2.2.2.2.1 else w114.2.2.2.1))) then (IntKind.wrap .i64 (Int.tdiv (IntKind.wrap .i64 ((IntKind.wrap .i64 (1024 * w114.1)) * w114.2.2.2.2.1)) w114.2.2.2.2.2.1)) else (IntKind.wrap .i64 (Int.tdiv (IntKind.wrap .i64 ((IntKind.wrap .i64 (r117_0 * w114.1)) * w114.2.2.2.2.1)) (if w114.2.2.2.1 < w114.2.2.2.2.2.1 then w114.2.2.2.2.2.1 else w114.2.2.2.1)))))) 1024))))), w114.2.2.2.2.2.2.1, (Int.tmod (IntKind.wrap .i64 (w114.2.2.2.2.2.2.2.1 + (if (IntKind.wrap .i64 (Int.tdiv (IntKind.wrap .i64 ((IntKind.wrap .i64 (1024 * w114.1)) * w114.2.2.2.2.1)) w114.2.2.2.2.2.1)) < (IntKind.wrap .i64 (Int.tdiv (IntKind.wrap .i64 ((IntKind.wrap .i64 (r117_0 * w114.1)) * w114.2.2.2.2.1)) (if w114.2.2.2.1 < w114.2.2.2.2.2.1 then w114.2.2.2.2.2.1 else w114.2.2.2.1))) then (IntKind.wrap .i64 (Int.tdiv (IntKind.wrap .i64 ((IntKind.wrap .i64 (1024 * w114.1)) * w114.2.2.2.2.1)) w114.2.2.2.2.2.1)) else (IntKind.wrap .i64 (Int.tdiv (IntKind.wrap .i64 ((IntKind.wrap .i64 (r117_0 * w114.1)) * w114.2.2.2.2.1)) (if w114.2.2.2.1 < w114.2.2.2.2.2.1 then w114.2.2.2.2.2.1 else w114.2.2.2.1)))))) 1024), w114.2.2.2.2.2.2.2.2)
    else none
    else none
theorem f43_cwnd_Window_Acked_ok (n : Nat) (n_ : Int) (l : List (Int × Int)) (w_0 : Int) (w_1 : Int) (w_2 : Int) (w_3 : Int) (w_4 : Int) (r : Int × Int × Int × Int × Int) (h : f43_cwnd_Window_Acked n n_ l w_0 w_1 w_2 w_3 w_4 = some r) : FnOK Go.Proofs.Try.prog 43 (f43_cwnd_Window_Acked_in n_ l w_0 w_1 w_2 w_3 w_4) (f43_cwnd_Window_Acked_out r) := by
  unfold f43_cwnd_Window_Acked at h
  refine At.fn (r := 0) Go.Proofs.Try.func43 rfl (by kernel_rfl) rfl rfl (by kernel_rfl) ?_
  show At Go.Proofs.Try.prog Go.Proofs.Try.f43 1 0 ⟨[(0, .one (.c (.ptr 0 0))), (1, .one (.c (.d (.int .i64 n_)))), (2, .one (.c (.d (.sl (.pair (.int .i64) (.int .i64)) l))))], [], [(0, [.d (.int .i64 w_0), .d (.int .i64 w_1), .d (.int .i64 w_2), .d (.int .i64 w_3), .d (.int .i64 w_4)])], 1⟩ _
  refine At.step hm ht ⟨[], [], [], [0, 1, 2], [0]⟩ 1 ⟨[(0, .one (.c (.ptr 0 0))), (1, .one (.c (.d (.int .i64 (if 1024 < (if n_ < 0 then 0 else n_) then 1024 else (if n_ < 0 then 0 else n_)))))), (2, .one (.c (.d (.sl (.pair (.int .i64) (.int .i64)) l))))], [], [(0, [.d (.int .i64 w_0), .d (.int .i64 w_1), .d (.int .i64 w_2), .d (.int .i64 w_3), .d (.int .i64 w_4)])], 1⟩ [] (by kernel_rfl) trivial ?_
  obtain ⟨r103_0, cr103_0, h⟩ := bindS h
  refine At.step hm ht ⟨[(2, .call [0] [] (f73_cwnd_Window_gone_out r103_0))], [], [], [0, 1, 2], [0]⟩ 2 ⟨[(0, .one (.c (.ptr 0 0))), (1, .one (.c (.d (.int .i64 (if 1024 < (if n_ < 0 then 0 else n_) then 1024 else (if n_ < 0 then 0 else n_)))))), (2, .one (.c (.d (.sl (.pair (.int .i64) (.int .i64)) l))))], [], [(0, [.d (.int .i64 r103_0.1), .d (.int .i64 r103_0.2.1), .d (.int .i64 r103_0.2.2.1), .d (.int .i64 r103_0.2.2.2.1), .d (.int .i64 r103_0.2.2.2.2)])], 1⟩ [FnOK Go.Proofs.Try.prog 73 (f73_cwnd_Window_gone_in (if 1024 < (if n_ < 0 then 0 else n_) then 1024 else (if n_ < 0 then 0 else n_)) w_0 w_1 w_2 w_3 w_4) (f73_cwnd_Window_gone_out r103_0)] (by kernel_rfl) ⟨(f73_cwnd_Window_gone_ok (if 1024 < (if n_ < 0 then 0 else n_) then 1024 else (if n_ < 0 then 0 else n_)) w_0 w_1 w_2 w_3 w_4 r103_0 cr103_0), trivial⟩ ?_
  refine At.step hm ht ⟨[], [], [], [0, 1, 2, 6], [0]⟩ 3 ⟨[(0, .one (.c (.ptr 0 0))), (1, .one (.c (.d (.int .i64 (if 1024 < (if n_ < 0 then 0 else n_) then 1024 else (if n_ < 0 then 0 else n_)))))), (2, .one (.c (.d (.sl (.pair (.int .i64) (.int .i64)) l)))), (6, .one (.c (.d (.int .i64 (IntKind.wrap .i64 (64 * r103_0.1))))))], [], [(0, [.d (.int .i64 r103_0.1), .d (.int .i64 r103_0.2.1), .d (.int .i64 r103_0.2.2.1), .d (.int .i64 r103_0.2.2.2.1), .d (.int .i64 r103_0.2.2.2.2)])], 1⟩ [] (by kernel_rfl) trivial ?_
  rcases iteS h with ⟨b106_e0, h⟩ | ⟨b106_e0, h⟩
  · refine At.step hm ht ⟨[], [true], [], [0, 1, 6], [0]⟩ 4 ⟨[(0, .one (.c (.ptr 0 0))), (1, .one (.c (.d (.int .i64 (if 1024 < (if n_ < 0 then 0 else n_) then 1024 else (if n_ < 0 then 0 else n_)))))), (6, .one (.c (.d (.int .i64 (IntKind.wrap .i64 (64 * r103_0.1))))))], [], [(0, [.d (.int .i64 r103_0.1), .d (.int .i64 r103_0.2.1), .d (.int .i64 r103_0.2.2.1), .d (.int .i64 r103_0.2.2.2.1), .d (.int .i64 r103_0.2.2.2.2)])], 1⟩ [(decide ((r103_0.2.1 : Int) < r103_0.2.2.1)) = true] (by kernel_rfl) ⟨b106_e0, trivial⟩ ?_
    have h := Option.some.inj h
    subst h
    exact At.fin hm ht ⟨[], [], [], [], [0]⟩ [1 + 1 ≤ 5] (by kernel_rfl) ⟨(by decide), trivial⟩
  · refine At.step hm ht ⟨[], [false], [], [0, 1, 2, 6], [0]⟩ 5 ⟨[(0, .one (.c (.ptr 0 0))), (1, .one (.c (.d (.int .i64 (if 1024 < (if n_ < 0 then 0 else n_) then 1024 else (if n_ < 0 then 0 else n_)))))), (2, .one (.c (.d (.sl (.pair (.int .i64) (.int .i64)) l)))), (6, .one (.c (.d (.int .i64 (IntKind.wrap .i64 (64 * r103_0.1))))))], [], [(0, [.d (.int .i64 r103_0.1), .d (.int .i64 r103_0.2.1), .d (.int .i64 r103_0.2.2.1), .d (.int .i64 r103_0.2.2.2.1), .d (.int .i64 r103_0.2.2.2.2)])], 1⟩ [(decide ((r103_0.2.1 : Int) < r103_0.2.2.1)) = false] (by kernel_rfl) ⟨b106_e0, trivial⟩ ?_
    refine At.step hm ht ⟨[], [], [], [0, 1, 2, 6, 7], [0]⟩ 6 ⟨[(0, .one (.c (.ptr 0 0))), (1, .one (.c (.d (.int .i64 (if 1024 < (if n_ < 0 then 0 else n_) then 1024 else (if n_ < 0 then 0 else n_)))))), (2, .one (.c (.d (.sl (.pair (.int .i64) (.int .i64)) l)))), (6, .one (.c (.d (.int .i64 (IntKind.wrap .i64 (64 * r103_0.1)))))), (7, .one (.c (.d (.int .i64 0))))], [], [(0, [.d (.int .i64 r103_0.1), .d (.int .i64 r103_0.2.1), .d (.int .i64 r103_0.2.2.1), .d (.int .i64 r103_0.2.2.2.1), .d (.int .i64 r103_0.2.2.2.2)])], 1⟩ [] (by kernel_rfl) trivial ?_
    obtain ⟨r109_0, cr109_0, h⟩ := bindS h
    refine At.step hm ht ⟨[(1, .call [] [] (f69_cwnd_first_out r109_0))], [], [], [0, 1, 2, 6, 7, 43, 44, 45], [0]⟩ 7 ⟨[(0, .one (.c (.ptr 0 0))), (1, .one (.c (.d (.int .i64 (if 1024 < (if n_ < 0 then 0 else n_) then 1024 else (if n_ < 0 then 0 else n_)))))), (2, .one (.c (.d (.sl (.pair (.int .i64) (.int .i64)) l)))), (6, .one (.c (.d (.int .i64 (IntKind.wrap .i64 (64 * r103_0.1)))))), (7, .one (.c (.d (.int .i64 0)))), (43, .one (.c (.d (.sl (.pair (.int .i64) (.int .i64)) r109_0)))), (44, .one (.c (.d (.int .i64 ((r109_0.length : Nat) : Int))))), (45, .one (.c (.d (.int .i64 0))))], [], [(0, [.d (.int .i64 r103_0.1), .d (.int .i64 r103_0.2.1), .d (.int .i64 r103_0.2.2.1), .d (.int .i64 r103_0.2.2.2.1), .d (.int .i64 r103_0.2.2.2.2)])], 1⟩ [FnOK Go.Proofs.Try.prog 69 (f69_cwnd_first_in l) (f69_cwnd_first_out r109_0)] (by kernel_rfl) ⟨(f69_cwnd_first_ok l r109_0 cr109_0), trivial⟩ ?_
    obtain ⟨w114, cw114, h⟩ := bindS h
    refine f43_cwnd_Window_Acked_L7_ok n (if 1024 < (if n_ < 0 then 0 else n_) then 1024 else (if n_ < 0 then 0 else n_)) l (IntKind.wrap .i64 (64 * r103_0.1)) 0 r109_0 ((r109_0.length : Nat) : Int) 0 r103_0.1 r103_0.2.1 r103_0.2.2.1 r103_0.2.2.2.1 r103_0.2.2.2.2 w114 cw114 _ ?_
    show At Go.Proofs.Try.prog Go.Proofs.Try.f43 1 11 ⟨[(0, .one (.c (.ptr 0 0))), (1, .one (.c (.d (.int .i64 w114.1)))), (2, .one (.c (.d (.sl (.pair (.int .i64) (.int .i64)) w114.2.1)))), (6, .one (.c (.d (.int .i64 w114.2.2.1)))), (7, .one (.c (.d (.int .i64 w114.2.2.2.1))))], [], [(0, [.d (.int .i64 w114.2.2.2.2.1), .d (.int .i64 w114.2.2.2.2.2.1), .d (.int .i64 w114.2.2.2.2.2.2.1), .d (.int .i64 w114.2.2.2.2.2.2.2.1), .d (.int .i64 w114.2.2.2.2.2.2.2.2)])], 1⟩ _
    refine At.step hm ht ⟨[], [], [], [0, 1, 2, 6, 7], [0]⟩ 12 ⟨[(0, .one (.c (.ptr 0 0))), (1, .one (.c (.d (.int .i64 w114.1)))), (2, .one (.c (.d (.sl (.pair (.int .i64) (.int .i64)) w114.2.1)))), (6, .one (.c (.d (.int .i64 w114.2.2.1)))), (7, .one (.c (.d (.int .i64 (if w114.2.2.2.1 < w114.2.2.2.2.2.1 then w114.2.2.2.2.2.1 else w114.2.2.2.1)))))], [], [(0, [.d (.int .i64 w114.2.2.2.2.1), .d (.int .i64 w114.2.2.2.2.2.1), .d (.int .i64 w114.2.2.2.2.2.2.1), .d (.int .i64 w114.2.2.2.2.2.2.2.1), .d (.int .i64 w114.2.2.2.2.2.2.2.2)])], 1⟩ [] (by kernel_rfl) trivial ?_
    obtain ⟨r117_0, cr117_0, h⟩ := bindS h
    obtain ⟨g117_1, h⟩ := ifS h
    obtain ⟨g117_2, h⟩ := ifS h
    refine At.step hm ht ⟨[(1, .call [] [] (f38_cwnd_Alpha_out r117_0))], [], [], [0, 6, 10], [0]⟩ 13 ⟨[(0, .one (.c (.ptr 0 0))), (6, .one (.c (.d (.int .i64 w114.2.2.1)))), (10, .one (.c (.d (.int .i64 (if (IntKind.wrap .i64 (Int.tdiv (IntKind.wrap .i64 ((IntKind.wrap .i64 (1024 * w114.1)) * w114.2.2.2.2.1)) w114.2.2.2.2.2.1)) < (IntKind.wrap .i64 (Int.tdiv (IntKind.wrap .i64 ((IntKind.wrap .i64 (r117_0 * w114.1)) * w114.2.2.2.2.1)) (if w114.2.2.2.1 < w114.2.2.2.2.2.1 then w114.2.2.2.2.2.1 else w114.2.2.2.1))) then (IntKind.wrap .i64 (Int.tdiv (IntKind.wrap .i64 ((IntKind.wrap .i64 (1024 * w114.1)) * w114.2.2.2.2.1)) w114.2.2.2.2.2.1)) else (IntKind.wrap .i64 (Int.tdiv (IntKind.wrap .i64 ((IntKind.wrap .i64 (r117_0 * w114.1)) * w114.2.2.2.2.1)) (if w114.2.2.2.1 < w114.2.2.2.2.2.1 then w114.2.2.2.2.2.1 else w114.2.2.2.1))))))))], [], [(0, [.d (.int .i64 w114.2.2.2.2.1), .d (.int .i64 w114.2.2.2.2.2.1), .d (.int .i64 w114.2.2.2.2.2.2.1), .d (.int .i64 w114.2.2.2.2.2.2.2.1), .d (.int .i64 w114.2.2.2.2.2.2.2.2)])], 1⟩ [FnOK Go.Proofs.Try.prog 38 (f38_cwnd_Alpha_in w114.2.1) (f38_cwnd_Alpha_out r117_0), ((if w114.2.2.2.1 < w114.2.2.2.2.2.1 then w114.2.2.2.2.2.1 else w114.2.2.2.1) : Int) ≠ 0, (w114.2.2.2.2.2.1 : Int) ≠ 0] (by kernel_rfl) ⟨(f38_cwnd_Alpha_ok n w114.2.1 r117_0 cr117_0), g117_1, g117_2, trivial⟩ ?_
    refine At.step hm ht ⟨[], [], [], [0, 6], [0]⟩ 14 ⟨[(0, .one (.c (.ptr 0 0))), (6, .one (.c (.d (.int .i64 w114.2.2.1))))], [], [(0, [.d (.int .i64 w114.2.2.2.2.1), .d (.int .i64 w114.2.2.2.2.2.1), .d (.int .i64 w114.2.2.2.2.2.2.1), .d (.int .i64 (IntKind.wrap .i64 (w114.2.2.2.2.2.2.2.1 + (if (IntKind.wrap .i64 (Int.tdiv (IntKind.wrap .i64 ((IntKind.wrap .i64 (1024 * w114.1)) * w114.2.2.2.2.1)) w114.2.2.2.2.2.1)) < (IntKind.wrap .i64 (Int.tdiv (IntKind.wrap .i64 ((IntKind.wrap .i64 (r117_0 * w114.1)) * w114.2.2.2.2.1)) (if w114.2.2.2.1 < w114.2.2.2.2.2.1 then w114.2.2.2.2.2.1 else w114.2.2.2.1))) then (IntKind.wrap .i64 (Int.tdiv (IntKind.wrap .i64 ((IntKind.wrap .i64 (1024 * w114.1)) * w114.2.2.2.2.1)) w114.2.2.2.2.2.1)) else (IntKind.wrap .i64 (Int.tdiv (IntKind.wrap .i64 ((IntKind.wrap .i64 (r117_0 * w114.1)) * w114.2.2.2.2.1)) (if w114.2.2.2.1 < w114.2.2.2.2.2.1 then w114.2.2.2.2.2.1 else w114.2.2.2.1))))))), .d (.int .i64 w114.2.2.2.2.2.2.2.2)])], 1⟩ [3 + 1 ≤ 5] (by kernel_rfl) ⟨(by decide), trivial⟩ ?_
    refine At.step hm ht ⟨[], [], [], [0], [0]⟩ 15 ⟨[(0, .one (.c (.ptr 0 0)))], [], [(0, [.d (.int .i64 w114.2.2.2.2.1), .d (.int .i64 (if w114.2.2.1 < (IntKind.wrap .i64 (w114.2.2.2.2.2.1 + (IntKind.wrap .i64 (Int.tdiv (IntKind.wrap .i64 (w114.2.2.2.2.2.2.2.1 + (if (IntKind.wrap .i64 (Int.tdiv (IntKind.wrap .i64 ((IntKind.wrap .i64 (1024 * w114.1)) * w114.2.2.2.2.1)) w114.2.2.2.2.2.1)) < (IntKind.wrap .i64 (Int.tdiv (IntKind.wrap .i64 ((IntKind.wrap .i64 (r117_0 * w114.1)) * w114.2.2.2.2.1)) (if w114.2.2.2.1 < w114.2.2.2.2.2.1 then w114.2.2.2.2.2.1 else w114.2.2.2.1))) then (IntKind.wrap .i64 (Int.tdiv (IntKind.wrap .i64 ((IntKind.wrap .i64 (1024 * w114.1)) * w114.2.2.2.2.1)) w114.2.2.2.2.2.1)) else (IntKind.wrap .i64 (Int.tdiv (IntKind.wrap .i64 ((IntKind.wrap .i64 (r117_0 * w114.1)) * w114.2.2.2.2.1)) (if w114.2.2.2.1 < w114.2.2.2.2.2.1 then w114.2.2.2.2.2.1 else w114.2.2.2.1)))))) 1024)))) then w114.2.2.1 else (IntKind.wrap .i64 (w114.2.2.2.2.2.1 + (IntKind.wrap .i64 (Int.tdiv (IntKind.wrap .i64 (w114.2.2.2.2.2.2.2.1 + (if (IntKind.wrap .i64 (Int.tdiv (IntKind.wrap .i64 ((IntKind.wrap .i64 (1024 * w114.1)) * w114.2.2.2.2.1)) w114.2.2.2.2.2.1)) < (IntKind.wrap .i64 (Int.tdiv (IntKind.wrap .i64 ((IntKind.wrap .i64 (r117_0 * w114.1)) * w114.2.2.2.2.1)) (if w114.2.2.2.1 < w114.2.2.2.2.2.1 then w114.2.2.2.2.2.1 else w114.2.2.2.1))) then (IntKind.wrap .i64 (Int.tdiv (IntKind.wrap .i64 ((IntKind.wrap .i64 (1024 * w114.1)) * w114.2.2.2.2.1)) w114.2.2.2.2.2.1)) else (IntKind.wrap .i64 (Int.tdiv (IntKind.wrap .i64 ((IntKind.wrap .i64 (r117_0 * w114.1)) * w114.2.2.2.2.1)) (if w114.2.2.2.1 < w114.2.2.2.2.2.1 then w114.2.2.2.2.2.1 else w114.2.2.2.1)))))) 1024)))))), .d (.int .i64 w114.2.2.2.2.2.2.1), .d (.int .i64 (IntKind.wrap .i64 (w114.2.2.2.2.2.2.2.1 + (if (IntKind.wrap .i64 (Int.tdiv (IntKind.wrap .i64 ((IntKind.wrap .i64 (1024 * w114.1)) * w114.2.2.2.2.1)) w114.2.2.2.2.2.1)) < (IntKind.wrap .i64 (Int.tdiv (IntKind.wrap .i64 ((IntKind.wrap .i64 (r117_0 * w114.1)) * w114.2.2.2.2.1)) (if w114.2.2.2.1 < w114.2.2.2.2.2.1 then w114.2.2.2.2.2.1 else w114.2.2.2.1))) then (IntKind.wrap .i64 (Int.tdiv (IntKind.wrap .i64 ((IntKind.wrap .i64 (1024 * w114.1)) * w114.2.2.2.2.1)) w114.2.2.2.2.2.1)) else (IntKind.wrap .i64 (Int.tdiv (IntKind.wrap .i64 ((IntKind.wrap .i64 (r117_0 * w114.1)) * w114.2.2.2.2.1)) (if w114.2.2.2.1 < w114.2.2.2.2.2.1 then w114.2.2.2.2.2.1 else w114.2.2.2.1))))))), .d (.int .i64 w114.2.2.2.2.2.2.2.2)])], 1⟩ [(1024 : Int) ≠ 0, 1 + 1 ≤ 5] (by kernel_rfl) ⟨(by decide), (by decide), trivial⟩ ?_
    have h := Option.some.inj h
    subst h
    exact At.fin hm ht ⟨[], [], [], [], [0]⟩ [(1024 : Int) ≠ 0, 3 + 1 ≤ 5] (by kernel_rfl) ⟨(by decide), (by decide), trivial⟩
/-! (*brougham/cwnd.Window).Lost -/
def f45_cwnd_Window_Lost_in (n_ : Int) (w_0 : Int) (w_1 : Int) (w_2 : Int) (w_3 : Int) (w_4 : Int) : Inn := ⟨[.c (.ptr 0 0), .c (.d (.int .i64 n_))], [], [(0, [.d (.int .i64 w_0), .d (.int .i64 w_1), .d (.int .i64 w_2), .d (.int .i64 w_3), .d (.int .i64 w_4)])], 1⟩
def f45_cwnd_Window_Lost_out (r : Int × Int × Int × Int × Int) : Out := ⟨.tup [], [], [(0, [.d (.int .i64 r.1), .d (.int .i64 r.2.1), .d (.int .i64 r.2.2.1), .d (.int .i64 r.2.2.2.1), .d (.int .i64 r.2.2.2.2)])], 1⟩
def f45_cwnd_Window_Lost (n_ : Int) (w_0 : Int) (w_1 : Int) (w_2 : Int) (w_3 : Int) (w_4 : Int) : Option (Int × Int × Int × Int × Int) :=
  (f73_cwnd_Window_gone n_ w_0 w_0 (if (IntKind.wrap .i64 (Int.tdiv w_1 2)) < (IntKind.wrap .i64 (2 * w_0)) then (IntKind.wrap .i64 (2 * w_0)) else (IntKind.wrap .i64 (Int.tdiv w_1 2))) 0 w_4).bind fun r126_0 =>
  some (r126_0.1, r126_0.2.1, r126_0.2.2.1, r126_0.2.2.2.1, r126_0.2.2.2.2)
theorem f45_cwnd_Window_Lost_ok (n_ : Int) (w_0 : Int) (w_1 : Int) (w_2 : Int) (w_3 : Int) (w_4 : Int) (r : Int × Int × Int × Int × Int) (h : f45_cwnd_Window_Lost n_ w_0 w_1 w_2 w_3 w_4 = some r) : FnOK Go.Proofs.Try.prog 45 (f45_cwnd_Window_Lost_in n_ w_0 w_1 w_2 w_3 w_4) (f45_cwnd_Window_Lost_out r) := by
  unfold f45_cwnd_Window_Lost at h
  refine At.fn (r := 0) Go.Proofs.Try.func45 rfl (by kernel_rfl) rfl rfl (by kernel_rfl) ?_
  show At Go.Proofs.Try.prog Go.Proofs.Try.f45 1 0 ⟨[(0, .one (.c (.ptr 0 0))), (1, .one (.c (.d (.int .i64 n_))))], [], [(0, [.d (.int .i64 w_0), .d (.int .i64 w_1), .d (.int .i64 w_2), .d (.int .i64 w_3), .d (.int .i64 w_4)])], 1⟩ _
  refine At.step hm ht ⟨[], [], [], [0, 1], [0]⟩ 1 ⟨[(0, .one (.c (.ptr 0 0))), (1, .one (.c (.d (.int .i64 n_))))], [], [(0, [.d (.int .i64 w_0), .d (.int .i64 w_1), .d (.int .i64 (if (IntKind.wrap .i64 (Int.tdiv w_1 2)) < (IntKind.wrap .i64 (2 * w_0)) then (IntKind.wrap .i64 (2 * w_0)) else (IntKind.wrap .i64 (Int.tdiv w_1 2)))), .d (.int .i64 w_3), .d (.int .i64 w_4)])], 1⟩ [(2 : Int) ≠ 0, 2 + 1 ≤ 5] (by kernel_rfl) ⟨(by decide), (by decide), trivial⟩ ?_
  refine At.step hm ht ⟨[], [], [], [0, 1], [0]⟩ 2 ⟨[(0, .one (.c (.ptr 0 0))), (1, .one (.c (.d (.int .i64 n_))))], [], [(0, [.d (.int .i64 w_0), .d (.int .i64 w_0), .d (.int .i64 (if (IntKind.wrap .i64 (Int.tdiv w_1 2)) < (IntKind.wrap .i64 (2 * w_0)) then (IntKind.wrap .i64 (2 * w_0)) else (IntKind.wrap .i64 (Int.tdiv w_1 2)))), .d (.int .i64 w_3), .d (.int .i64 w_4)])], 1⟩ [1 + 1 ≤ 5] (by kernel_rfl) ⟨(by decide), trivial⟩ ?_
  refine At.step hm ht ⟨[], [], [], [0, 1], [0]⟩ 3 ⟨[(0, .one (.c (.ptr 0 0))), (1, .one (.c (.d (.int .i64 n_))))], [], [(0, [.d (.int .i64 w_0), .d (.int .i64 w_0), .d (.int .i64 (if (IntKind.wrap .i64 (Int.tdiv w_1 2)) < (IntKind.wrap .i64 (2 * w_0)) then (IntKind.wrap .i64 (2 * w_0)) else (IntKind.wrap .i64 (Int.tdiv w_1 2)))), .d (.int .i64 0), .d (.int .i64 w_4)])], 1⟩ [3 + 1 ≤ 5] (by kernel_rfl) ⟨(by decide), trivial⟩ ?_
  obtain ⟨r126_0, cr126_0, h⟩ := bindS h
  have h := Option.some.inj h
  subst h
  exact At.fin hm ht ⟨[(2, .call [0] [] (f73_cwnd_Window_gone_out r126_0))], [], [], [], [0]⟩ [FnOK Go.Proofs.Try.prog 73 (f73_cwnd_Window_gone_in n_ w_0 w_0 (if (IntKind.wrap .i64 (Int.tdiv w_1 2)) < (IntKind.wrap .i64 (2 * w_0)) then (IntKind.wrap .i64 (2 * w_0)) else (IntKind.wrap .i64 (Int.tdiv w_1 2))) 0 w_4) (f73_cwnd_Window_gone_out r126_0)] (by kernel_rfl) ⟨(f73_cwnd_Window_gone_ok n_ w_0 w_0 (if (IntKind.wrap .i64 (Int.tdiv w_1 2)) < (IntKind.wrap .i64 (2 * w_0)) then (IntKind.wrap .i64 (2 * w_0)) else (IntKind.wrap .i64 (Int.tdiv w_1 2))) 0 w_4 r126_0 cr126_0), trivial⟩
/-! (*brougham/cwnd.Window).Under -/
def f53_cwnd_Window_Under_in (w_0 : Int) (w_1 : Int) (w_2 : Int) (w_3 : Int) (w_4 : Int) : Inn := ⟨[.c (.ptr 0 0)], [], [(0, [.d (.int .i64 w_0), .d (.int .i64 w_1), .d (.int .i64 w_2), .d (.int .i64 w_3), .d (.int .i64 w_4)])], 1⟩
def f53_cwnd_Window_Under_out (r : Int × Int × Int × Int × Int × Int) : Out := ⟨.one (.c (.d (.int .i64 r.1))), [], [(0, [.d (.int .i64 r.2.1), .d (.int .i64 r.2.2.1), .d (.int .i64 r.2.2.2.1), .d (.int .i64 r.2.2.2.2.1), .d (.int .i64 r.2.2.2.2.2)])], 1⟩
def f53_cwnd_Window_Under (w_0 : Int) (w_1 : Int) (w_2 : Int) (w_3 : Int) (w_4 : Int) : Option (Int × Int × Int × Int × Int × Int) :=
  some (w_4, w_0, w_1, w_2, w_3, w_4)
theorem f53_cwnd_Window_Under_ok (w_0 : Int) (w_1 : Int) (w_2 : Int) (w_3 : Int) (w_4 : Int) (r : Int × Int × Int × Int × Int × Int) (h : f53_cwnd_Window_Under w_0 w_1 w_2 w_3 w_4 = some r) : FnOK Go.Proofs.Try.prog 53 (f53_cwnd_Window_Under_in w_0 w_1 w_2 w_3 w_4) (f53_cwnd_Window_Under_out r) := by
  unfold f53_cwnd_Window_Under at h
  refine At.fn (r := 0) Go.Proofs.Try.func53 rfl (by kernel_rfl) rfl rfl (by kernel_rfl) ?_
  show At Go.Proofs.Try.prog Go.Proofs.Try.f53 1 0 ⟨[(0, .one (.c (.ptr 0 0)))], [], [(0, [.d (.int .i64 w_0), .d (.int .i64 w_1), .d (.int .i64 w_2), .d (.int .i64 w_3), .d (.int .i64 w_4)])], 1⟩ _
  refine At.step hm ht ⟨[], [], [], [0], [0]⟩ 1 ⟨[(0, .one (.c (.ptr 0 0)))], [], [(0, [.d (.int .i64 w_0), .d (.int .i64 w_1), .d (.int .i64 w_2), .d (.int .i64 w_3), .d (.int .i64 w_4)])], 1⟩ [] (by kernel_rfl) trivial ?_
  have h := Option.some.inj h
  subst h
  exact At.fin hm ht ⟨[], [], [], [2], [0]⟩ [] (by kernel_rfl) trivial
/-! (*brougham/cwnd.Window).Room -/
def f54_cwnd_Window_Room_in (w_0 : Int) (w_1 : Int) (w_2 : Int) (w_3 : Int) (w_4 : Int) : Inn := ⟨[.c (.ptr 0 0)], [], [(0, [.d (.int .i64 w_0), .d (.int .i64 w_1), .d (.int .i64 w_2), .d (.int .i64 w_3), .d (.int .i64 w_4)])], 1⟩
def f54_cwnd_Window_Room_out (r : Int × Int × Int × Int × Int × Int) : Out := ⟨.one (.c (.d (.int .i64 r.1))), [], [(0, [.d (.int .i64 r.2.1), .d (.int .i64 r.2.2.1), .d (.int .i64 r.2.2.2.1), .d (.int .i64 r.2.2.2.2.1), .d (.int .i64 r.2.2.2.2.2)])], 1⟩
def f54_cwnd_Window_Room (w_0 : Int) (w_1 : Int) (w_2 : Int) (w_3 : Int) (w_4 : Int) : Option (Int × Int × Int × Int × Int × Int) :=
  some ((if (IntKind.wrap .i64 (w_1 - w_4)) < 0 then 0 else (IntKind.wrap .i64 (w_1 - w_4))), w_0, w_1, w_2, w_3, w_4)
theorem f54_cwnd_Window_Room_ok (w_0 : Int) (w_1 : Int) (w_2 : Int) (w_3 : Int) (w_4 : Int) (r : Int × Int × Int × Int × Int × Int) (h : f54_cwnd_Window_Room w_0 w_1 w_2 w_3 w_4 = some r) : FnOK Go.Proofs.Try.prog 54 (f54_cwnd_Window_Room_in w_0 w_1 w_2 w_3 w_4) (f54_cwnd_Window_Room_out r) := by
  unfold f54_cwnd_Window_Room at h
  refine At.fn (r := 0) Go.Proofs.Try.func54 rfl (by kernel_rfl) rfl rfl (by kernel_rfl) ?_
  show At Go.Proofs.Try.prog Go.Proofs.Try.f54 1 0 ⟨[(0, .one (.c (.ptr 0 0)))], [], [(0, [.d (.int .i64 w_0), .d (.int .i64 w_1), .d (.int .i64 w_2), .d (.int .i64 w_3), .d (.int .i64 w_4)])], 1⟩ _
  refine At.step hm ht ⟨[], [], [], [0], [0]⟩ 1 ⟨[(0, .one (.c (.ptr 0 0)))], [], [(0, [.d (.int .i64 w_0), .d (.int .i64 w_1), .d (.int .i64 w_2), .d (.int .i64 w_3), .d (.int .i64 w_4)])], 1⟩ [] (by kernel_rfl) trivial ?_
  have h := Option.some.inj h
  subst h
  exact At.fin hm ht ⟨[], [], [], [2], [0]⟩ [] (by kernel_rfl) trivial
/-! brougham/broughamlaw13.alive -/
def f41_broughamlaw13_alive_in : Inn := ⟨[], [], [], 0⟩
def f41_broughamlaw13_alive_out (r : Bool) : Out := ⟨.one (.c (.d (.bool r))), [], [], 0⟩
def f41_broughamlaw13_alive (n : Nat) : Option (Bool) :=
  (f42_cwnd_New 100).bind fun r91_0 =>
  (f44_cwnd_Window_Size r91_0.1 r91_0.2.1 r91_0.2.2.1 r91_0.2.2.2.1 r91_0.2.2.2.2).bind fun r96_0 =>
  (f47_cwnd_Window_Sent 100 r96_0.2.1 r96_0.2.2.1 r96_0.2.2.2.1 r96_0.2.2.2.2.1 r96_0.2.2.2.2.2).bind fun r99_0 =>
  (f43_cwnd_Window_Acked n 100 [] r99_0.1 r99_0.2.1 r99_0.2.2.1 r99_0.2.2.2.1 r99_0.2.2.2.2).bind fun r101_0 =>
  (f44_cwnd_Window_Size r101_0.1 r101_0.2.1 r101_0.2.2.1 r101_0.2.2.2.1 r101_0.2.2.2.2).bind fun r121_0 =>
  (f45_cwnd_Window_Lost 0 r121_0.2.1 r121_0.2.2.1 r121_0.2.2.2.1 r121_0.2.2.2.2.1 r121_0.2.2.2.2.2).bind fun r122_0 =>
  if ((r96_0.1 : Int) == 400) = true then
    if ((r121_0.1 : Int) == 500) = true then
      (f44_cwnd_Window_Size r122_0.1 r122_0.2.1 r122_0.2.2.1 r122_0.2.2.2.1 r122_0.2.2.2.2).bind fun r127_0 =>
      if ((r127_0.1 : Int) == 100) = true then
        (f53_cwnd_Window_Under r127_0.2.1 r127_0.2.2.1 r127_0.2.2.2.1 r127_0.2.2.2.2.1 r127_0.2.2.2.2.2).bind fun r127_1 =>
        if ((r127_1.1 : Int) == 0) = true then
          (f54_cwnd_Window_Room r127_1.2.1 r127_1.2.2.1 r127_1.2.2.2.1 r127_1.2.2.2.2.1 r127_1.2.2.2.2.2).bind fun r127_2 =>
          some ((r127_2.1 : Int) == 100)
        else
          some false
      else
        some false
    else
      some false
  else
    some false
theorem f41_broughamlaw13_alive_ok (n : Nat) (r : Bool) (h : f41_broughamlaw13_alive n = some r) : FnOK Go.Proofs.Try.prog 41 (f41_broughamlaw13_alive_in) (f41_broughamlaw13_alive_out r) := by
  unfold f41_broughamlaw13_alive at h
  refine At.fn (r := 0) Go.Proofs.Try.func41 rfl (by kernel_rfl) rfl rfl (by kernel_rfl) ?_
  show At Go.Proofs.Try.prog Go.Proofs.Try.f41 0 0 ⟨[], [], [], 0⟩ _
  refine At.step hm ht ⟨[], [], [], [], []⟩ 1 ⟨[], [], [], 0⟩ [] (by kernel_rfl) trivial ?_
  obtain ⟨r91_0, cr91_0, h⟩ := bindS h
  refine At.step hm ht ⟨[(0, .call [] [] (f42_cwnd_New_out r91_0))], [], [], [1], [0]⟩ 2 ⟨[(1, .one (.c (.ptr 0 0)))], [], [(0, [.d (.int .i64 r91_0.1), .d (.int .i64 r91_0.2.1), .d (.int .i64 r91_0.2.2.1), .d (.int .i64 r91_0.2.2.2.1), .d (.int .i64 r91_0.2.2.2.2)])], 1⟩ [FnOK Go.Proofs.Try.prog 42 (f42_cwnd_New_in 100) (f42_cwnd_New_out r91_0)] (by kernel_rfl) ⟨(f42_cwnd_New_ok 100 r91_0 cr91_0), trivial⟩ ?_
  refine At.step hm ht ⟨[], [false], [], [1], [0]⟩ 4 ⟨[(1, .one (.c (.ptr 0 0)))], [], [(0, [.d (.int .i64 r91_0.1), .d (.int .i64 r91_0.2.1), .d (.int .i64 r91_0.2.2.1), .d (.int .i64 r91_0.2.2.2.1), .d (.int .i64 r91_0.2.2.2.2)])], 1⟩ [false = false] (by kernel_rfl) ⟨rfl, trivial⟩ ?_
  obtain ⟨r96_0, cr96_0, h⟩ := bindS h
  refine At.step hm ht ⟨[(1, .call [0] [] (f44_cwnd_Window_Size_out r96_0))], [], [], [1, 2], [0]⟩ 5 ⟨[(1, .one (.c (.ptr 0 0))), (2, .one (.c (.d (.int .i64 r96_0.1))))], [], [(0, [.d (.int .i64 r96_0.2.1), .d (.int .i64 r96_0.2.2.1), .d (.int .i64 r96_0.2.2.2.1), .d (.int .i64 r96_0.2.2.2.2.1), .d (.int .i64 r96_0.2.2.2.2.2)])], 1⟩ [FnOK Go.Proofs.Try.prog 44 (f44_cwnd_Window_Size_in r91_0.1 r91_0.2.1 r91_0.2.2.1 r91_0.2.2.2.1 r91_0.2.2.2.2) (f44_cwnd_Window_Size_out r96_0)] (by kernel_rfl) ⟨(f44_cwnd_Window_Size_ok r91_0.1 r91_0.2.1 r91_0.2.2.1 r91_0.2.2.2.1 r91_0.2.2.2.2 r96_0 cr96_0), trivial⟩ ?_
  obtain ⟨r99_0, cr99_0, h⟩ := bindS h
  refine At.step hm ht ⟨[(1, .call [0] [] (f47_cwnd_Window_Sent_out r99_0))], [], [], [1, 2], [0]⟩ 6 ⟨[(1, .one (.c (.ptr 0 0))), (2, .one (.c (.d (.int .i64 r96_0.1))))], [], [(0, [.d (.int .i64 r99_0.1), .d (.int .i64 r99_0.2.1), .d (.int .i64 r99_0.2.2.1), .d (.int .i64 r99_0.2.2.2.1), .d (.int .i64 r99_0.2.2.2.2)])], 1⟩ [FnOK Go.Proofs.Try.prog 47 (f47_cwnd_Window_Sent_in 100 r96_0.2.1 r96_0.2.2.1 r96_0.2.2.2.1 r96_0.2.2.2.2.1 r96_0.2.2.2.2.2) (f47_cwnd_Window_Sent_out r99_0)] (by kernel_rfl) ⟨(f47_cwnd_Window_Sent_ok 100 r96_0.2.1 r96_0.2.2.1 r96_0.2.2.2.1 r96_0.2.2.2.2.1 r96_0.2.2.2.2.2 r99_0 cr99_0), trivial⟩ ?_
  obtain ⟨r101_0, cr101_0, h⟩ := bindS h
  refine At.step hm ht ⟨[(1, .call [0] [(2, 0, (.pair (.int .i64) (.int .i64)))] (f43_cwnd_Window_Acked_out r101_0))], [], [], [1, 2], [0]⟩ 7 ⟨[(1, .one (.c (.ptr 0 0))), (2, .one (.c (.d (.int .i64 r96_0.1))))], [], [(0, [.d (.int .i64 r101_0.1), .d (.int .i64 r101_0.2.1), .d (.int .i64 r101_0.2.2.1), .d (.int .i64 r101_0.2.2.2.1), .d (.int .i64 r101_0.2.2.2.2)])], 1⟩ [FnOK Go.Proofs.Try.prog 43 (f43_cwnd_Window_Acked_in 100 [] r99_0.1 r99_0.2.1 r99_0.2.2.1 r99_0.2.2.2.1 r99_0.2.2.2.2) (f43_cwnd_Window_Acked_out r101_0)] (by kernel_rfl) ⟨(f43_cwnd_Window_Acked_ok n 100 [] r99_0.1 r99_0.2.1 r99_0.2.2.1 r99_0.2.2.2.1 r99_0.2.2.2.2 r101_0 cr101_0), trivial⟩ ?_
  obtain ⟨r121_0, cr121_0, h⟩ := bindS h
  refine At.step hm ht ⟨[(1, .call [0] [] (f44_cwnd_Window_Size_out r121_0))], [], [], [1, 2, 3], [0]⟩ 8 ⟨[(1, .one (.c (.ptr 0 0))), (2, .one (.c (.d (.int .i64 r96_0.1)))), (3, .one (.c (.d (.int .i64 r121_0.1))))], [], [(0, [.d (.int .i64 r121_0.2.1), .d (.int .i64 r121_0.2.2.1), .d (.int .i64 r121_0.2.2.2.1), .d (.int .i64 r121_0.2.2.2.2.1), .d (.int .i64 r121_0.2.2.2.2.2)])], 1⟩ [FnOK Go.Proofs.Try.prog 44 (f44_cwnd_Window_Size_in r101_0.1 r101_0.2.1 r101_0.2.2.1 r101_0.2.2.2.1 r101_0.2.2.2.2) (f44_cwnd_Window_Size_out r121_0)] (by kernel_rfl) ⟨(f44_cwnd_Window_Size_ok r101_0.1 r101_0.2.1 r101_0.2.2.1 r101_0.2.2.2.1 r101_0.2.2.2.2 r121_0 cr121_0), trivial⟩ ?_
  obtain ⟨r122_0, cr122_0, h⟩ := bindS h
  refine At.step hm ht ⟨[(1, .call [0] [] (f45_cwnd_Window_Lost_out r122_0))], [], [], [1, 2, 3], [0]⟩ 9 ⟨[(1, .one (.c (.ptr 0 0))), (2, .one (.c (.d (.int .i64 r96_0.1)))), (3, .one (.c (.d (.int .i64 r121_0.1))))], [], [(0, [.d (.int .i64 r122_0.1), .d (.int .i64 r122_0.2.1), .d (.int .i64 r122_0.2.2.1), .d (.int .i64 r122_0.2.2.2.1), .d (.int .i64 r122_0.2.2.2.2)])], 1⟩ [FnOK Go.Proofs.Try.prog 45 (f45_cwnd_Window_Lost_in 0 r121_0.2.1 r121_0.2.2.1 r121_0.2.2.2.1 r121_0.2.2.2.2.1 r121_0.2.2.2.2.2) (f45_cwnd_Window_Lost_out r122_0)] (by kernel_rfl) ⟨(f45_cwnd_Window_Lost_ok 0 r121_0.2.1 r121_0.2.2.1 r121_0.2.2.2.1 r121_0.2.2.2.2.1 r121_0.2.2.2.2.2 r122_0 cr122_0), trivial⟩ ?_
  rcases iteS h with ⟨b127_2, h⟩ | ⟨b127_2, h⟩
  · rcases iteS h with ⟨b127_6, h⟩ | ⟨b127_6, h⟩
    · obtain ⟨r127_0, cr127_0, h⟩ := bindS h
      rcases iteS h with ⟨b127_11, h⟩ | ⟨b127_11, h⟩
      · obtain ⟨r127_1, cr127_1, h⟩ := bindS h
        rcases iteS h with ⟨b127_16, h⟩ | ⟨b127_16, h⟩
        · obtain ⟨r127_2, cr127_2, h⟩ := bindS h
          have h := Option.some.inj h
          subst h
          exact At.fin hm ht ⟨[(2, .b true), (6, .b true), (8, .call [0] [] (f44_cwnd_Window_Size_out r127_0)), (11, .b true), (13, .call [0] [] (f53_cwnd_Window_Under_out r127_1)), (16, .b true), (18, .call [0] [] (f54_cwnd_Window_Room_out r127_2))], [], [], [0], []⟩ [((r96_0.1 : Int) == 400) = true, ((r121_0.1 : Int) == 500) = true, FnOK Go.Proofs.Try.prog 44 (f44_cwnd_Window_Size_in r122_0.1 r122_0.2.1 r122_0.2.2.1 r122_0.2.2.2.1 r122_0.2.2.2.2) (f44_cwnd_Window_Size_out r127_0), ((r127_0.1 : Int) == 100) = true, FnOK Go.Proofs.Try.prog 53 (f53_cwnd_Window_Under_in r127_0.2.1 r127_0.2.2.1 r127_0.2.2.2.1 r127_0.2.2.2.2.1 r127_0.2.2.2.2.2) (f53_cwnd_Window_Under_out r127_1), ((r127_1.1 : Int) == 0) = true, FnOK Go.Proofs.Try.prog 54 (f54_cwnd_Window_Room_in r127_1.2.1 r127_1.2.2.1 r127_1.2.2.2.1 r127_1.2.2.2.2.1 r127_1.2.2.2.2.2) (f54_cwnd_Window_Room_out r127_2)] (by kernel_rfl) ⟨b127_2, b127_6, (f44_cwnd_Window_Size_ok r122_0.1 r122_0.2.1 r122_0.2.2.1 r122_0.2.2.2.1 r122_0.2.2.2.2 r127_0 cr127_0), b127_11, (f53_cwnd_Window_Under_ok r127_0.2.1 r127_0.2.2.1 r127_0.2.2.2.1 r127_0.2.2.2.2.1 r127_0.2.2.2.2.2 r127_1 cr127_1), b127_16, (f54_cwnd_Window_Room_ok r127_1.2.1 r127_1.2.2.1 r127_1.2.2.2.1 r127_1.2.2.2.2.1 r127_1.2.2.2.2.2 r127_2 cr127_2), trivial⟩
        · have h := Option.some.inj h
          subst h
          exact At.fin hm ht ⟨[(2, .b true), (6, .b true), (8, .call [0] [] (f44_cwnd_Window_Size_out r127_0)), (11, .b true), (13, .call [0] [] (f53_cwnd_Window_Under_out r127_1)), (16, .b false)], [], [], [0], []⟩ [((r96_0.1 : Int) == 400) = true, ((r121_0.1 : Int) == 500) = true, FnOK Go.Proofs.Try.prog 44 (f44_cwnd_Window_Size_in r122_0.1 r122_0.2.1 r122_0.2.2.1 r122_0.2.2.2.1 r122_0.2.2.2.2) (f44_cwnd_Window_Size_out r127_0), ((r127_0.1 : Int) == 100) = true, FnOK Go.Proofs.Try.prog 53 (f53_cwnd_Window_Under_in r127_0.2.1 r127_0.2.2.1 r127_0.2.2.2.1 r127_0.2.2.2.2.1 r127_0.2.2.2.2.2) (f53_cwnd_Window_Under_out r127_1), ((r127_1.1 : Int) == 0) = false] (by kernel_rfl) ⟨b127_2, b127_6, (f44_cwnd_Window_Size_ok r122_0.1 r122_0.2.1 r122_0.2.2.1 r122_0.2.2.2.1 r122_0.2.2.2.2 r127_0 cr127_0), b127_11, (f53_cwnd_Window_Under_ok r127_0.2.1 r127_0.2.2.1 r127_0.2.2.2.1 r127_0.2.2.2.2.1 r127_0.2.2.2.2.2 r127_1 cr127_1), b127_16, trivial⟩
      · have h := Option.some.inj h
        subst h
        exact At.fin hm ht ⟨[(2, .b true), (6, .b true), (8, .call [0] [] (f44_cwnd_Window_Size_out r127_0)), (11, .b false)], [], [], [0], []⟩ [((r96_0.1 : Int) == 400) = true, ((r121_0.1 : Int) == 500) = true, FnOK Go.Proofs.Try.prog 44 (f44_cwnd_Window_Size_in r122_0.1 r122_0.2.1 r122_0.2.2.1 r122_0.2.2.2.1 r122_0.2.2.2.2) (f44_cwnd_Window_Size_out r127_0), ((r127_0.1 : Int) == 100) = false] (by kernel_rfl) ⟨b127_2, b127_6, (f44_cwnd_Window_Size_ok r122_0.1 r122_0.2.1 r122_0.2.2.1 r122_0.2.2.2.1 r122_0.2.2.2.2 r127_0 cr127_0), b127_11, trivial⟩
    · have h := Option.some.inj h
      subst h
      exact At.fin hm ht ⟨[(2, .b true), (6, .b false)], [], [], [0], []⟩ [((r96_0.1 : Int) == 400) = true, ((r121_0.1 : Int) == 500) = false] (by kernel_rfl) ⟨b127_2, b127_6, trivial⟩
  · have h := Option.some.inj h
    subst h
    exact At.fin hm ht ⟨[(2, .b false)], [], [], [0], []⟩ [((r96_0.1 : Int) == 400) = false] (by kernel_rfl) ⟨b127_2, trivial⟩
/-! brougham/broughamlaw13.CwndAlpha -/
def f7_broughamlaw13_CwndAlpha_in (l : List (Int × Int)) : Inn := ⟨[.c (.d (.sl (.pair (.int .i64) (.int .i64)) l))], [], [], 0⟩
def f7_broughamlaw13_CwndAlpha_out (r : Bool) : Out := ⟨.one (.c (.d (.bool r))), [], [], 0⟩
def f7_broughamlaw13_CwndAlpha (n : Nat) (l : List (Int × Int)) : Option (Bool) :=
  if (decide ((((l.length : Nat) : Int) : Int) > 200)) = true then
    some true
  else
    (f38_cwnd_Alpha n l).bind fun r4_0 =>
    (f40_broughamlaw13_plain n l).bind fun r4_1 =>
    (f39_broughamref13_Alpha n r4_1).bind fun r4_2 =>
    if ((r4_0 : Int) == r4_2) = true then
      (f41_broughamlaw13_alive n).bind fun r4_3 =>
      some r4_3
    else
      some false
theorem f7_broughamlaw13_CwndAlpha_ok (n : Nat) (l : List (Int × Int)) (r : Bool) (h : f7_broughamlaw13_CwndAlpha n l = some r) : FnOK Go.Proofs.Try.prog 7 (f7_broughamlaw13_CwndAlpha_in l) (f7_broughamlaw13_CwndAlpha_out r) := by
  unfold f7_broughamlaw13_CwndAlpha at h
  refine At.fn (r := 0) Go.Proofs.Try.func7 rfl (by kernel_rfl) rfl rfl (by kernel_rfl) ?_
  show At Go.Proofs.Try.prog Go.Proofs.Try.f7 0 0 ⟨[(0, .one (.c (.d (.sl (.pair (.int .i64) (.int .i64)) l))))], [], [], 0⟩ _
  refine At.step hm ht ⟨[], [], [], [0], []⟩ 1 ⟨[(0, .one (.c (.d (.sl (.pair (.int .i64) (.int .i64)) l))))], [], [], 0⟩ [] (by kernel_rfl) trivial ?_
  rcases iteS h with ⟨b2_e0, h⟩ | ⟨b2_e0, h⟩
  · refine At.step hm ht ⟨[], [true], [], [], []⟩ 2 ⟨[], [], [], 0⟩ [(decide ((((l.length : Nat) : Int) : Int) > 200)) = true] (by kernel_rfl) ⟨b2_e0, trivial⟩ ?_
    have h := Option.some.inj h
    subst h
    exact At.fin hm ht ⟨[], [], [], [2], []⟩ [] (by kernel_rfl) trivial
  · refine At.step hm ht ⟨[], [false], [], [0], []⟩ 3 ⟨[(0, .one (.c (.d (.sl (.pair (.int .i64) (.int .i64)) l))))], [], [], 0⟩ [(decide ((((l.length : Nat) : Int) : Int) > 200)) = false] (by kernel_rfl) ⟨b2_e0, trivial⟩ ?_
    obtain ⟨r4_0, cr4_0, h⟩ := bindS h
    obtain ⟨r4_1, cr4_1, h⟩ := bindS h
    obtain ⟨r4_2, cr4_2, h⟩ := bindS h
    rcases iteS h with ⟨b4_6, h⟩ | ⟨b4_6, h⟩
    · obtain ⟨r4_3, cr4_3, h⟩ := bindS h
      have h := Option.some.inj h
      subst h
      exact At.fin hm ht ⟨[(1, .call [] [] (f38_cwnd_Alpha_out r4_0)), (3, .call [] [] (f40_broughamlaw13_plain_out r4_1)), (4, .call [] [] (f39_broughamref13_Alpha_out r4_2)), (6, .b true), (7, .call [] [] (f41_broughamlaw13_alive_out r4_3))], [], [], [2], []⟩ [FnOK Go.Proofs.Try.prog 38 (f38_cwnd_Alpha_in l) (f38_cwnd_Alpha_out r4_0), FnOK Go.Proofs.Try.prog 40 (f40_broughamlaw13_plain_in l) (f40_broughamlaw13_plain_out r4_1), FnOK Go.Proofs.Try.prog 39 (f39_broughamref13_Alpha_in r4_1) (f39_broughamref13_Alpha_out r4_2), ((r4_0 : Int) == r4_2) = true, FnOK Go.Proofs.Try.prog 41 (f41_broughamlaw13_alive_in) (f41_broughamlaw13_alive_out r4_3)] (by kernel_rfl) ⟨(f38_cwnd_Alpha_ok n l r4_0 cr4_0), (f40_broughamlaw13_plain_ok n l r4_1 cr4_1), (f39_broughamref13_Alpha_ok n r4_1 r4_2 cr4_2), b4_6, (f41_broughamlaw13_alive_ok n r4_3 cr4_3), trivial⟩
    · have h := Option.some.inj h
      subst h
      exact At.fin hm ht ⟨[(1, .call [] [] (f38_cwnd_Alpha_out r4_0)), (3, .call [] [] (f40_broughamlaw13_plain_out r4_1)), (4, .call [] [] (f39_broughamref13_Alpha_out r4_2)), (6, .b false)], [], [], [2], []⟩ [FnOK Go.Proofs.Try.prog 38 (f38_cwnd_Alpha_in l) (f38_cwnd_Alpha_out r4_0), FnOK Go.Proofs.Try.prog 40 (f40_broughamlaw13_plain_in l) (f40_broughamlaw13_plain_out r4_1), FnOK Go.Proofs.Try.prog 39 (f39_broughamref13_Alpha_in r4_1) (f39_broughamref13_Alpha_out r4_2), ((r4_0 : Int) == r4_2) = false] (by kernel_rfl) ⟨(f38_cwnd_Alpha_ok n l r4_0 cr4_0), (f40_broughamlaw13_plain_ok n l r4_1 cr4_1), (f39_broughamref13_Alpha_ok n r4_1 r4_2 cr4_2), b4_6, trivial⟩
/-! brougham/broughamlaw13.CwndSlow -/
def f8_broughamlaw13_CwndSlow_in (mss : Int) (many : Int) (mean : Int) : Inn := ⟨[.c (.d (.int .i64 mss)), .c (.d (.int .i64 many)), .c (.d (.int .i64 mean))], [], [], 0⟩
def f8_broughamlaw13_CwndSlow_out (r : Bool) : Out := ⟨.one (.c (.d (.bool r))), [], [], 0⟩
def f8_broughamlaw13_CwndSlow_L7 : Nat → Int → Int → Int → Int → Int → Int → Int → Int → Int → Option (Int × Int × Int × Int × Int × Int × Int × Int)
  | 0, _, _, _, _, _, _, _, _, _ => none
  | n + 1, mss, many, mean, i, w_0, w_1, w_2, w_3, w_4 =>
    if (decide ((i : Int) < 20)) = true then
      (f43_cwnd_Window_Acked n mss [] w_0 w_1 w_2 w_3 w_4).bind fun r144_0 =>
      f8_broughamlaw13_CwndSlow_L7 n mss many mean (IntKind.wrap .i64 (i + 1)) r144_0.1 r144_0.2.1 r144_0.2.2.1 r144_0.2.2.2.1 r144_0.2.2.2.2
    else
      some ((mss, many, mean, w_0, w_1, w_2, w_3, w_4))
def f8_broughamlaw13_CwndSlow_L7_k (e : Int × Int × Int × Int × Int × Int × Int × Int) (o : Out) : Prop := At Go.Proofs.Try.prog Go.Proofs.Try.f8 0 10 ⟨[(0, .one (.c (.d (.int .i64 e.1)))), (1, .one (.c (.d (.int .i64 e.2.1)))), (2, .one (.c (.d (.int .i64 e.2.2.1)))), (7, .one (.c (.ptr 0 0)))], [], [(0, [.d (.int .i64 e.2.2.2.1), .d (.int .i64 e.2.2.2.2.1), .d (.int .i64 e.2.2.2.2.2.1), .d (.int .i64 e.2.2.2.2.2.2.1), .d (.int .i64 e.2.2.2.2.2.2.2)])], 1⟩ o
theorem f8_broughamlaw13_CwndSlow_L7_ok (n : Nat) : ∀ (mss : Int) (many : Int) (mean : Int) (i : Int) (w_0 : Int) (w_1 : Int) (w_2 : Int) (w_3 : Int) (w_4 : Int) (w : Int × Int × Int × Int × Int × Int × Int × Int) (h : f8_broughamlaw13_CwndSlow_L7 n mss many mean i w_0 w_1 w_2 w_3 w_4 = some w) (o : Out) (hk : f8_broughamlaw13_CwndSlow_L7_k w o), At Go.Proofs.Try.prog Go.Proofs.Try.f8 0 7 ⟨[(0, .one (.c (.d (.int .i64 mss)))), (1, .one (.c (.d (.int .i64 many)))), (2, .one (.c (.d (.int .i64 mean)))), (7, .one (.c (.ptr 0 0))), (8, .one (.c (.d (.int .i64 i))))], [], [(0, [.d (.int .i64 w_0), .d (.int .i64 w_1), .d (.int .i64 w_2), .d (.int .i64 w_3), .d (.int .i64 w_4)])], 1⟩ o := by
  induction n with
  | zero => intro mss many mean i w_0 w_1 w_2 w_3 w_4 w h; rw [f8_broughamlaw13_CwndSlow_L7] at h; cases h
  | succ n ih =>
    intro mss many mean i w_0 w_1 w_2 w_3 w_4 w h o hk
    rw [f8_broughamlaw13_CwndSlow_L7] at h
    rcases iteS h with ⟨b143_e0, h⟩ | ⟨b143_e0, h⟩
    · refine At.step hm ht ⟨[], [true], [], [0, 1, 2, 7, 8], [0]⟩ 9 ⟨[(0, .one (.c (.d (.int .i64 mss)))), (1, .one (.c (.d (.int .i64 many)))), (2, .one (.c (.d (.int .i64 mean)))), (7, .one (.c (.ptr 0 0))), (8, .one (.c (.d (.int .i64 i))))], [], [(0, [.d (.int .i64 w_0), .d (.int .i64 w_1), .d (.int .i64 w_2), .d (.int .i64 w_3), .d (.int .i64 w_4)])], 1⟩ [(decide ((i : Int) < 20)) = true] (by kernel_rfl) ⟨b143_e0, trivial⟩ ?_
      obtain ⟨r144_0, cr144_0, h⟩ := bindS h
      refine At.step hm ht ⟨[(2, .call [0] [(2, 0, (.pair (.int .i64) (.int .i64)))] (f43_cwnd_Window_Acked_out r144_0))], [], [], [0, 1, 2, 7, 8], [0]⟩ 8 ⟨[(0, .one (.c (.d (.int .i64 mss)))), (1, .one (.c (.d (.int .i64 many)))), (2, .one (.c (.d (.int .i64 mean)))), (7, .one (.c (.ptr 0 0))), (8, .one (.c (.d (.int .i64 i))))], [], [(0, [.d (.int .i64 r144_0.1), .d (.int .i64 r144_0.2.1), .d (.int .i64 r144_0.2.2.1), .d (.int .i64 r144_0.2.2.2.1), .d (.int .i64 r144_0.2.2.2.2)])], 1⟩ [FnOK Go.Proofs.Try.prog 43 (f43_cwnd_Window_Acked_in mss [] w_0 w_1 w_2 w_3 w_4) (f43_cwnd_Window_Acked_out r144_0)] (by kernel_rfl) ⟨(f43_cwnd_Window_Acked_ok n mss [] w_0 w_1 w_2 w_3 w_4 r144_0 cr144_0), trivial⟩ ?_
      refine At.step hm ht ⟨[], [], [], [0, 1, 2, 7, 8], [0]⟩ 7 ⟨[(0, .one (.c (.d (.int .i64 mss)))), (1, .one (.c (.d (.int .i64 many)))), (2, .one (.c (.d (.int .i64 mean)))), (7, .one (.c (.ptr 0 0))), (8, .one (.c (.d (.int .i64 (IntKind.wrap .i64 (i + 1))))))], [], [(0, [.d (.int .i64 r144_0.1), .d (.int .i64 r144_0.2.1), .d (.int .i64 r144_0.2.2.1), .d (.int .i64 r144_0.2.2.2.1), .d (.int .i64 r144_0.2.2.2.2)])], 1⟩ [] (by kernel_rfl) trivial ?_
      exact ih mss many mean (IntKind.wrap .i64 (i + 1)) r144_0.1 r144_0.2.1 r144_0.2.2.1 r144_0.2.2.2.1 r144_0.2.2.2.2 w h o hk
    · refine At.step hm ht ⟨[], [false], [], [0, 1, 2, 7], [0]⟩ 10 ⟨[(0, .one (.c (.d (.int .i64 mss)))), (1, .one (.c (.d (.int .i64 many)))), (2, .one (.c (.d (.int .i64 mean)))), (7, .one (.c (.ptr 0 0)))], [], [(0, [.d (.int .i64 w_0), .d (.int .i64 w_1), .d (.int .i64 w_2), .d (.int .i64 w_3), .d (.int .i64 w_4)])], 1⟩ [(decide ((i : Int) < 20)) = false] (by kernel_rfl) ⟨b143_e0, trivial⟩ ?_
      have h := Option.some.inj h
      subst h
      exact hk
def f8_broughamlaw13_CwndSlow_L13 : Nat → Int → Int → Int → Int → Int → Int → Int → Int → Int → Int → Option ((Bool) ⊕ (Int × Int × Int × Int × Int × Int × Int × Int × Int))
  | 0, _, _, _, _, _, _, _, _, _, _ => none
  | n + 1, mss, many, mean, half, i, w_0, w_1, w_2, w_3, w_4 =>
    if (decide ((i : Int) < 60)) = true then
      (f44_cwnd_Window_Size w_0 w_1 w_2 w_3 w_4).bind fun r151_0 =>
      if (decide ((r151_0.1 : Int) < half)) = true then
        (f44_cwnd_Window_Size r151_0.2.1 r151_0.2.2.1 r151_0.2.2.2.1 r151_0.2.2.2.2.1 r151_0.2.2.2.2.2).bind fun r152_0 =>
        (f43_cwnd_Window_Acked n mss [] r152_0.2.1 r152_0.2.2.1 r152_0.2.2.2.1 r152_0.2.2.2.2.1 r152_0.2.2.2.2.2).bind fun r153_0 =>
        (f44_cwnd_Window_Size r153_0.1 r153_0.2.1 r153_0.2.2.1 r153_0.2.2.2.1 r153_0.2.2.2.2).bind fun r154_0 =>
        if ((r154_0.1 : Int) != (IntKind.wrap .i64 (r152_0.1 + mss))) = true then
          some (.inl false)
        else
          f8_broughamlaw13_CwndSlow_L13 n mss many mean half (IntKind.wrap .i64 (i + 1)) r154_0.2.1 r154_0.2.2.1 r154_0.2.2.2.1 r154_0.2.2.2.2.1 r154_0.2.2.2.2.2
      else
        some (.inr ((mss, many, mean, half, r151_0.2.1, r151_0.2.2.1, r151_0.2.2.2.1, r151_0.2.2.2.2.1, r151_0.2.2.2.2.2)))
    else
      some (.inr ((mss, many, mean, half, w_0, w_1, w_2, w_3, w_4)))
def f8_broughamlaw13_CwndSlow_L13_k (w : (Bool) ⊕ (Int × Int × Int × Int × Int × Int × Int × Int × Int)) (o : Out) : Prop := match w with
  | .inl e => o = f8_broughamlaw13_CwndSlow_out e
  | .inr e => At Go.Proofs.Try.prog Go.Proofs.Try.f8 0 19 ⟨[(0, .one (.c (.d (.int .i64 e.1)))), (1, .one (.c (.d (.int .i64 e.2.1)))), (2, .one (.c (.d (.int .i64 e.2.2.1)))), (7, .one (.c (.ptr 0 0))), (9, .one (.c (.d (.int .i64 e.2.2.2.1))))], [], [(0, [.d (.int .i64 e.2.2.2.2.1), .d (.int .i64 e.2.2.2.2.2.1), .d (.int .i64 e.2.2.2.2.2.2.1), .d (.int .i64 e.2.2.2.2.2.2.2.1), .d (.int .i64 e.2.2.2.2.2.2.2.2)])], 1⟩ o
theorem f8_broughamlaw13_CwndSlow_L13_ok (n : Nat) : ∀ (mss : Int) (many : Int) (mean : Int) (half : Int) (i : Int) (w_0 : Int) (w_1 : Int) (w_2 : Int) (w_3 : Int) (w_4 : Int) (w : (Bool) ⊕ (Int × Int × Int × Int × Int × Int × Int × Int × Int)) (h : f8_broughamlaw13_CwndSlow_L13 n mss many mean half i w_0 w_1 w_2 w_3 w_4 = some w) (o : Out) (hk : f8_broughamlaw13_CwndSlow_L13_k w o), At Go.Proofs.Try.prog Go.Proofs.Try.f8 0 13 ⟨[(0, .one (.c (.d (.int .i64 mss)))), (1, .one (.c (.d (.int .i64 many)))), (2, .one (.c (.d (.int .i64 mean)))), (7, .one (.c (.ptr 0 0))), (9, .one (.c (.d (.int .i64 half)))), (10, .one (.c (.d (.int .i64 i))))], [], [(0, [.d (.int .i64 w_0), .d (.int .i64 w_1), .d (.int .i64 w_2), .d (.int .i64 w_3), .d (.int .i64 w_4)])], 1⟩ o := by
  induction n with
  | zero => intro mss many mean half i w_0 w_1 w_2 w_3 w_4 w h; rw [f8_broughamlaw13_CwndSlow_L13] at h; cases h
  | succ n ih =>
    intro mss many mean half i w_0 w_1 w_2 w_3 w_4 w h o hk
    rw [f8_broughamlaw13_CwndSlow_L13] at h
    rcases iteS h with ⟨b151_2, h⟩ | ⟨b151_2, h⟩
    · obtain ⟨r151_0, cr151_0, h⟩ := bindS h
      rcases iteS h with ⟨b151_e0, h⟩ | ⟨b151_e0, h⟩
      · refine At.step hm ht ⟨[(2, .b true), (4, .call [0] [] (f44_cwnd_Window_Size_out r151_0))], [true], [], [0, 1, 2, 7, 9, 10], [0]⟩ 15 ⟨[(0, .one (.c (.d (.int .i64 mss)))), (1, .one (.c (.d (.int .i64 many)))), (2, .one (.c (.d (.int .i64 mean)))), (7, .one (.c (.ptr 0 0))), (9, .one (.c (.d (.int .i64 half)))), (10, .one (.c (.d (.int .i64 i))))], [], [(0, [.d (.int .i64 r151_0.2.1), .d (.int .i64 r151_0.2.2.1), .d (.int .i64 r151_0.2.2.2.1), .d (.int .i64 r151_0.2.2.2.2.1), .d (.int .i64 r151_0.2.2.2.2.2)])], 1⟩ [(decide ((i : Int) < 60)) = true, FnOK Go.Proofs.Try.prog 44 (f44_cwnd_Window_Size_in w_0 w_1 w_2 w_3 w_4) (f44_cwnd_Window_Size_out r151_0), (decide ((r151_0.1 : Int) < half)) = true] (by kernel_rfl) ⟨b151_2, (f44_cwnd_Window_Size_ok w_0 w_1 w_2 w_3 w_4 r151_0 cr151_0), b151_e0, trivial⟩ ?_
        obtain ⟨r152_0, cr152_0, h⟩ := bindS h
        refine At.step hm ht ⟨[(1, .call [0] [] (f44_cwnd_Window_Size_out r152_0))], [], [], [0, 1, 2, 7, 9, 10, 11], [0]⟩ 16 ⟨[(0, .one (.c (.d (.int .i64 mss)))), (1, .one (.c (.d (.int .i64 many)))), (2, .one (.c (.d (.int .i64 mean)))), (7, .one (.c (.ptr 0 0))), (9, .one (.c (.d (.int .i64 half)))), (10, .one (.c (.d (.int .i64 i)))), (11, .one (.c (.d (.int .i64 r152_0.1))))], [], [(0, [.d (.int .i64 r152_0.2.1), .d (.int .i64 r152_0.2.2.1), .d (.int .i64 r152_0.2.2.2.1), .d (.int .i64 r152_0.2.2.2.2.1), .d (.int .i64 r152_0.2.2.2.2.2)])], 1⟩ [FnOK Go.Proofs.Try.prog 44 (f44_cwnd_Window_Size_in r151_0.2.1 r151_0.2.2.1 r151_0.2.2.2.1 r151_0.2.2.2.2.1 r151_0.2.2.2.2.2) (f44_cwnd_Window_Size_out r152_0)] (by kernel_rfl) ⟨(f44_cwnd_Window_Size_ok r151_0.2.1 r151_0.2.2.1 r151_0.2.2.2.1 r151_0.2.2.2.2.1 r151_0.2.2.2.2.2 r152_0 cr152_0), trivial⟩ ?_
        obtain ⟨r153_0, cr153_0, h⟩ := bindS h
        refine At.step hm ht ⟨[(2, .call [0] [(2, 0, (.pair (.int .i64) (.int .i64)))] (f43_cwnd_Window_Acked_out r153_0))], [], [], [0, 1, 2, 7, 9, 10, 11], [0]⟩ 17 ⟨[(0, .one (.c (.d (.int .i64 mss)))), (1, .one (.c (.d (.int .i64 many)))), (2, .one (.c (.d (.int .i64 mean)))), (7, .one (.c (.ptr 0 0))), (9, .one (.c (.d (.int .i64 half)))), (10, .one (.c (.d (.int .i64 i)))), (11, .one (.c (.d (.int .i64 r152_0.1))))], [], [(0, [.d (.int .i64 r153_0.1), .d (.int .i64 r153_0.2.1), .d (.int .i64 r153_0.2.2.1), .d (.int .i64 r153_0.2.2.2.1), .d (.int .i64 r153_0.2.2.2.2)])], 1⟩ [FnOK Go.Proofs.Try.prog 43 (f43_cwnd_Window_Acked_in mss [] r152_0.2.1 r152_0.2.2.1 r152_0.2.2.2.1 r152_0.2.2.2.2.1 r152_0.2.2.2.2.2) (f43_cwnd_Window_Acked_out r153_0)] (by kernel_rfl) ⟨(f43_cwnd_Window_Acked_ok n mss [] r152_0.2.1 r152_0.2.2.1 r152_0.2.2.2.1 r152_0.2.2.2.2.1 r152_0.2.2.2.2.2 r153_0 cr153_0), trivial⟩ ?_
        obtain ⟨r154_0, cr154_0, h⟩ := bindS h
        rcases iteS h with ⟨b154_e0, h⟩ | ⟨b154_e0, h⟩
        · refine At.step hm ht ⟨[(1, .call [0] [] (f44_cwnd_Window_Size_out r154_0))], [true], [], [], []⟩ 18 ⟨[], [], [], 0⟩ [FnOK Go.Proofs.Try.prog 44 (f44_cwnd_Window_Size_in r153_0.1 r153_0.2.1 r153_0.2.2.1 r153_0.2.2.2.1 r153_0.2.2.2.2) (f44_cwnd_Window_Size_out r154_0), ((r154_0.1 : Int) != (IntKind.wrap .i64 (r152_0.1 + mss))) = true] (by kernel_rfl) ⟨(f44_cwnd_Window_Size_ok r153_0.1 r153_0.2.1 r153_0.2.2.1 r153_0.2.2.2.1 r153_0.2.2.2.2 r154_0 cr154_0), b154_e0, trivial⟩ ?_
          have h := Option.some.inj h
          subst h
          have hk : o = f8_broughamlaw13_CwndSlow_out false := hk
          subst hk
          exact At.fin hm ht ⟨[], [], [], [6], []⟩ [] (by kernel_rfl) trivial
        · refine At.step hm ht ⟨[(1, .call [0] [] (f44_cwnd_Window_Size_out r154_0))], [false], [], [0, 1, 2, 7, 9, 10], [0]⟩ 14 ⟨[(0, .one (.c (.d (.int .i64 mss)))), (1, .one (.c (.d (.int .i64 many)))), (2, .one (.c (.d (.int .i64 mean)))), (7, .one (.c (.ptr 0 0))), (9, .one (.c (.d (.int .i64 half)))), (10, .one (.c (.d (.int .i64 i))))], [], [(0, [.d (.int .i64 r154_0.2.1), .d (.int .i64 r154_0.2.2.1), .d (.int .i64 r154_0.2.2.2.1), .d (.int .i64 r154_0.2.2.2.2.1), .d (.int .i64 r154_0.2.2.2.2.2)])], 1⟩ [FnOK Go.Proofs.Try.prog 44 (f44_cwnd_Window_Size_in r153_0.1 r153_0.2.1 r153_0.2.2.1 r153_0.2.2.2.1 r153_0.2.2.2.2) (f44_cwnd_Window_Size_out r154_0), ((r154_0.1 : Int) != (IntKind.wrap .i64 (r152_0.1 + mss))) = false] (by kernel_rfl) ⟨(f44_cwnd_Window_Size_ok r153_0.1 r153_0.2.1 r153_0.2.2.1 r153_0.2.2.2.1 r153_0.2.2.2.2 r154_0 cr154_0), b154_e0, trivial⟩ ?_
          refine At.step hm ht ⟨[], [], [], [0, 1, 2, 7, 9, 10], [0]⟩ 13 ⟨[(0, .one (.c (.d (.int .i64 mss)))), (1, .one (.c (.d (.int .i64 many)))), (2, .one (.c (.d (.int .i64 mean)))), (7, .one (.c (.ptr 0 0))), (9, .one (.c (.d (.int .i64 half)))), (10, .one (.c (.d (.int .i64 (IntKind.wrap .i64 (i + 1))))))], [], [(0, [.d (.int .i64 r154_0.2.1), .d (.int .i64 r154_0.2.2.1), .d (.int .i64 r154_0.2.2.2.1), .d (.int .i64 r154_0.2.2.2.2.1), .d (.int .i64 r154_0.2.2.2.2.2)])], 1⟩ [] (by kernel_rfl) trivial ?_
          exact ih mss many mean half (IntKind.wrap .i64 (i + 1)) r154_0.2.1 r154_0.2.2.1 r154_0.2.2.2.1 r154_0.2.2.2.2.1 r154_0.2.2.2.2.2 w h o hk
      · refine At.step hm ht ⟨[(2, .b true), (4, .call [0] [] (f44_cwnd_Window_Size_out r151_0))], [false], [], [0, 1, 2, 7, 9], [0]⟩ 19 ⟨[(0, .one (.c (.d (.int .i64 mss)))), (1, .one (.c (.d (.int .i64 many)))), (2, .one (.c (.d (.int .i64 mean)))), (7, .one (.c (.ptr 0 0))), (9, .one (.c (.d (.int .i64 half))))], [], [(0, [.d (.int .i64 r151_0.2.1), .d (.int .i64 r151_0.2.2.1), .d (.int .i64 r151_0.2.2.2.1), .d (.int .i64 r151_0.2.2.2.2.1), .d (.int .i64 r151_0.2.2.2.2.2)])], 1⟩ [(decide ((i : Int) < 60)) = true, FnOK Go.Proofs.Try.prog 44 (f44_cwnd_Window_Size_in w_0 w_1 w_2 w_3 w_4) (f44_cwnd_Window_Size_out r151_0), (decide ((r151_0.1 : Int) < half)) = false] (by kernel_rfl) ⟨b151_2, (f44_cwnd_Window_Size_ok w_0 w_1 w_2 w_3 w_4 r151_0 cr151_0), b151_e0, trivial⟩ ?_
        have h := Option.some.inj h
        subst h
        exact hk
    · refine At.step hm ht ⟨[(2, .b false)], [false], [], [0, 1, 2, 7, 9], [0]⟩ 19 ⟨[(0, .one (.c (.d (.int .i64 mss)))), (1, .one (.c (.d (.int .i64 many)))), (2, .one (.c (.d (.int .i64 mean)))), (7, .one (.c (.ptr 0 0))), (9, .one (.c (.d (.int .i64 half))))], [], [(0, [.d (.int .i64 w_0), .d (.int .i64 w_1), .d (.int .i64 w_2), .d (.int .i64 w_3), .d (.int .i64 w_4)])], 1⟩ [(decide ((i : Int) < 60)) = false, false = false] (by kernel_rfl) ⟨b151_2, rfl, trivial⟩ ?_
      have h := Option.some.inj h
      subst h
      exact hk
def f8_broughamlaw13_CwndSlow_L21 : Nat → Int → Int → Int → Int → Int → Int → Int → Int → Int → Int → Int → Int → Option (Int × Int × Int × Int × Int × Int × Int × Int × Int)
  | 0, _, _, _, _, _, _, _, _, _, _, _, _ => none
  | n + 1, mss, many, mean, half, from_, bytes, i, w_0, w_1, w_2, w_3, w_4 =>
    if (decide ((i : Int) < many)) = true then
      (f44_cwnd_Window_Size w_0 w_1 w_2 w_3 w_4).bind fun r163_0 =>
      (f43_cwnd_Window_Acked n mss [(r163_0.1, mean)] r163_0.2.1 r163_0.2.2.1 r163_0.2.2.2.1 r163_0.2.2.2.2.1 r163_0.2.2.2.2.2).bind fun r163_1 =>
      f8_broughamlaw13_CwndSlow_L21 n mss many mean half from_ (IntKind.wrap .i64 (bytes + mss)) (IntKind.wrap .i64 (i + 1)) r163_1.1 r163_1.2.1 r163_1.2.2.1 r163_1.2.2.2.1 r163_1.2.2.2.2
    else
      some ((mss, half, from_, bytes, w_0, w_1, w_2, w_3, w_4))
def f8_broughamlaw13_CwndSlow_L21_k (e : Int × Int × Int × Int × Int × Int × Int × Int × Int) (o : Out) : Prop := At Go.Proofs.Try.prog Go.Proofs.Try.f8 0 25 ⟨[(0, .one (.c (.d (.int .i64 e.1)))), (7, .one (.c (.ptr 0 0))), (9, .one (.c (.d (.int .i64 e.2.1)))), (12, .one (.c (.d (.int .i64 e.2.2.1)))), (13, .one (.c (.d (.int .i64 e.2.2.2.1))))], [], [(0, [.d (.int .i64 e.2.2.2.2.1), .d (.int .i64 e.2.2.2.2.2.1), .d (.int .i64 e.2.2.2.2.2.2.1), .d (.int .i64 e.2.2.2.2.2.2.2.1), .d (.int .i64 e.2.2.2.2.2.2.2.2)])], 1⟩ o
theorem f8_broughamlaw13_CwndSlow_L21_ok (n : Nat) : ∀ (mss : Int) (many : Int) (mean : Int) (half : Int) (from_ : Int) (bytes : Int) (i : Int) (w_0 : Int) (w_1 : Int) (w_2 : Int) (w_3 : Int) (w_4 : Int) (w : Int × Int × Int × Int × Int × Int × Int × Int × Int) (h : f8_broughamlaw13_CwndSlow_L21 n mss many mean half from_ bytes i w_0 w_1 w_2 w_3 w_4 = some w) (o : Out) (hk : f8_broughamlaw13_CwndSlow_L21_k w o), At Go.Proofs.Try.prog Go.Proofs.Try.f8 0 21 ⟨[(0, .one (.c (.d (.int .i64 mss)))), (1, .one (.c (.d (.int .i64 many)))), (2, .one (.c (.d (.int .i64 mean)))), (7, .one (.c (.ptr 0 0))), (9, .one (.c (.d (.int .i64 half)))), (12, .one (.c (.d (.int .i64 from_)))), (13, .one (.c (.d (.int .i64 bytes)))), (14, .one (.c (.d (.int .i64 i))))], [], [(0, [.d (.int .i64 w_0), .d (.int .i64 w_1), .d (.int .i64 w_2), .d (.int .i64 w_3), .d (.int .i64 w_4)])], 1⟩ o := by
  induction n with
  | zero => intro mss many mean half from_ bytes i w_0 w_1 w_2 w_3 w_4 w h; rw [f8_broughamlaw13_CwndSlow_L21] at h; cases h
  | succ n ih =>
    intro mss many mean half from_ bytes i w_0 w_1 w_2 w_3 w_4 w h o hk
    rw [f8_broughamlaw13_CwndSlow_L21] at h
    rcases iteS h with ⟨b162_e0, h⟩ | ⟨b162_e0, h⟩
    · refine At.step hm ht ⟨[], [true], [], [0, 1, 2, 7, 9, 12, 13, 14], [0]⟩ 23 ⟨[(0, .one (.c (.d (.int .i64 mss)))), (1, .one (.c (.d (.int .i64 many)))), (2, .one (.c (.d (.int .i64 mean)))), (7, .one (.c (.ptr 0 0))), (9, .one (.c (.d (.int .i64 half)))), (12, .one (.c (.d (.int .i64 from_)))), (13, .one (.c (.d (.int .i64 bytes)))), (14, .one (.c (.d (.int .i64 i))))], [], [(0, [.d (.int .i64 w_0), .d (.int .i64 w_1), .d (.int .i64 w_2), .d (.int .i64 w_3), .d (.int .i64 w_4)])], 1⟩ [(decide ((i : Int) < many)) = true] (by kernel_rfl) ⟨b162_e0, trivial⟩ ?_
      obtain ⟨r163_0, cr163_0, h⟩ := bindS h
      obtain ⟨r163_1, cr163_1, h⟩ := bindS h
      refine At.step hm ht ⟨[(3, .call [0] [] (f44_cwnd_Window_Size_out r163_0)), (7, .call [0] [] (f43_cwnd_Window_Acked_out r163_1))], [], [], [0, 1, 2, 7, 9, 12, 13, 14], [0]⟩ 24 ⟨[(0, .one (.c (.d (.int .i64 mss)))), (1, .one (.c (.d (.int .i64 many)))), (2, .one (.c (.d (.int .i64 mean)))), (7, .one (.c (.ptr 0 0))), (9, .one (.c (.d (.int .i64 half)))), (12, .one (.c (.d (.int .i64 from_)))), (13, .one (.c (.d (.int .i64 bytes)))), (14, .one (.c (.d (.int .i64 i))))], [], [(0, [.d (.int .i64 r163_1.1), .d (.int .i64 r163_1.2.1), .d (.int .i64 r163_1.2.2.1), .d (.int .i64 r163_1.2.2.2.1), .d (.int .i64 r163_1.2.2.2.2)])], 1⟩ [FnOK Go.Proofs.Try.prog 44 (f44_cwnd_Window_Size_in w_0 w_1 w_2 w_3 w_4) (f44_cwnd_Window_Size_out r163_0), FnOK Go.Proofs.Try.prog 43 (f43_cwnd_Window_Acked_in mss [(r163_0.1, mean)] r163_0.2.1 r163_0.2.2.1 r163_0.2.2.2.1 r163_0.2.2.2.2.1 r163_0.2.2.2.2.2) (f43_cwnd_Window_Acked_out r163_1)] (by kernel_rfl) ⟨(f44_cwnd_Window_Size_ok w_0 w_1 w_2 w_3 w_4 r163_0 cr163_0), (f43_cwnd_Window_Acked_ok n mss [(r163_0.1, mean)] r163_0.2.1 r163_0.2.2.1 r163_0.2.2.2.1 r163_0.2.2.2.2.1 r163_0.2.2.2.2.2 r163_1 cr163_1), trivial⟩ ?_
      refine At.step hm ht ⟨[], [], [], [0, 1, 2, 7, 9, 12, 13, 14], [0]⟩ 22 ⟨[(0, .one (.c (.d (.int .i64 mss)))), (1, .one (.c (.d (.int .i64 many)))), (2, .one (.c (.d (.int .i64 mean)))), (7, .one (.c (.ptr 0 0))), (9, .one (.c (.d (.int .i64 half)))), (12, .one (.c (.d (.int .i64 from_)))), (13, .one (.c (.d (.int .i64 (IntKind.wrap .i64 (bytes + mss)))))), (14, .one (.c (.d (.int .i64 i))))], [], [(0, [.d (.int .i64 r163_1.1), .d (.int .i64 r163_1.2.1), .d (.int .i64 r163_1.2.2.1), .d (.int .i64 r163_1.2.2.2.1), .d (.int .i64 r163_1.2.2.2.2)])], 1⟩ [] (by kernel_rfl) trivial ?_
      refine At.step hm ht ⟨[], [], [], [0, 1, 2, 7, 9, 12, 13, 14], [0]⟩ 21 ⟨[(0, .one (.c (.d (.int .i64 mss)))), (1, .one (.c (.d (.int .i64 many)))), (2, .one (.c (.d (.int .i64 mean)))), (7, .one (.c (.ptr 0 0))), (9, .one (.c (.d (.int .i64 half)))), (12, .one (.c (.d (.int .i64 from_)))), (13, .one (.c (.d (.int .i64 (IntKind.wrap .i64 (bytes + mss)))))), (14, .one (.c (.d (.int .i64 (IntKind.wrap .i64 (i + 1))))))], [], [(0, [.d (.int .i64 r163_1.1), .d (.int .i64 r163_1.2.1), .d (.int .i64 r163_1.2.2.1), .d (.int .i64 r163_1.2.2.2.1), .d (.int .i64 r163_1.2.2.2.2)])], 1⟩ [] (by kernel_rfl) trivial ?_
      exact ih mss many mean half from_ (IntKind.wrap .i64 (bytes + mss)) (IntKind.wrap .i64 (i + 1)) r163_1.1 r163_1.2.1 r163_1.2.2.1 r163_1.2.2.2.1 r163_1.2.2.2.2 w h o hk
    · refine At.step hm ht ⟨[], [false], [], [0, 7, 9, 12, 13], [0]⟩ 25 ⟨[(0, .one (.c (.d (.int .i64 mss)))), (7, .one (.c (.ptr 0 0))), (9, .one (.c (.d (.int .i64 half)))), (12, .one (.c (.d (.int .i64 from_)))), (13, .one (.c (.d (.int .i64 bytes))))], [], [(0, [.d (.int .i64 w_0), .d (.int .i64 w_1), .d (.int .i64 w_2), .d (.int .i64 w_3), .d (.int .i64 w_4)])], 1⟩ [(decide ((i : Int) < many)) = false] (by kernel_rfl) ⟨b162_e0, trivial⟩ ?_
      have h := Option.some.inj h
      subst h
      exact hk
def f8_broughamlaw13_CwndSlow (n : Nat) (mss : Int) (many : Int) (mean : Int) : Option (Bool) :=
  if (decide ((mss : Int) < 1)) = true then
    some true
  else
    if (decide ((mss : Int) > 1000)) = true then
      some true
    else
      if (decide ((many : Int) < 0)) = true then
        some true
      else
        if (decide ((many : Int) > 300)) = true then
          some true
        else
          if (decide ((mean : Int) < 1)) = true then
            some true
          else
            if (decide ((mean : Int) > 500)) = true then
              some true
            else
              (f42_cwnd_New mss).bind fun r140_0 =>
              (f8_broughamlaw13_CwndSlow_L7 n mss many mean 0 r140_0.1 r140_0.2.1 r140_0.2.2.1 r140_0.2.2.2.1 r140_0.2.2.2.2).bind fun w146 =>
              (f44_cwnd_Window_Size w146.2.2.2.1 w146.2.2.2.2.1 w146.2.2.2.2.2.1 w146.2.2.2.2.2.2.1 w146.2.2.2.2.2.2.2).bind fun r148_0 =>
              (f45_cwnd_Window_Lost 0 r148_0.2.1 r148_0.2.2.1 r148_0.2.2.2.1 r148_0.2.2.2.2.1 r148_0.2.2.2.2.2).bind fun r149_0 =>
              (f8_broughamlaw13_CwndSlow_L13 n w146.1 w146.2.1 w146.2.2.1 (IntKind.wrap .i64 (Int.tdiv r148_0.1 2)) 0 r149_0.1 r149_0.2.1 r149_0.2.2.1 r149_0.2.2.2.1 r149_0.2.2.2.2).bind fun w157 =>
              match w157 with
              | .inl e158 =>
                some e158
              | .inr e159 =>
                (f44_cwnd_Window_Size e159.2.2.2.2.1 e159.2.2.2.2.2.1 e159.2.2.2.2.2.2.1 e159.2.2.2.2.2.2.2.1 e159.2.2.2.2.2.2.2.2).bind fun r160_0 =>
                (f8_broughamlaw13_CwndSlow_L21 n e159.1 e159.2.1 e159.2.2.1 e159.2.2.2.1 r160_0.1 0 0 r160_0.2.1 r160_0.2.2.1 r160_0.2.2.2.1 r160_0.2.2.2.2.1 r160_0.2.2.2.2.2).bind fun w166 =>
                if (decide ((w166.2.2.1 : Int) ≥ w166.2.1)) = true then
                  if (decide ((w166.2.2.1 : Int) < (IntKind.wrap .i64 (w166.2.1 + w166.1)))) = true then
                    (f44_cwnd_Window_Size w166.2.2.2.2.1 w166.2.2.2.2.2.1 w166.2.2.2.2.2.2.1 w166.2.2.2.2.2.2.2.1 w166.2.2.2.2.2.2.2.2).bind fun r168_0 =>
                    if (decide ((r168_0.1 : Int) ≥ w166.2.2.1)) = true then
                      (f44_cwnd_Window_Size r168_0.2.1 r168_0.2.2.1 r168_0.2.2.2.1 r168_0.2.2.2.2.1 r168_0.2.2.2.2.2).bind fun r168_1 =>
                      if (w166.2.2.1 : Int) ≠ 0 then
                      if (decide (((IntKind.wrap .i64 (r168_1.1 - w166.2.2.1)) : Int) ≤ (IntKind.wrap .i64 ((IntKind.wrap .i64 (Int.tdiv (IntKind.wrap .i64 (w166.2.2.2.1 * w166.1)) w166.2.2.1)) + 1)))) = true then
                        (f41_broughamlaw13_alive n).bind fun r168_3 =>
                        some r168_3
                      else
                        some false
                      else none
                    else
                      some false
                  else
                    some false
                else
                  some false
theorem f8_broughamlaw13_CwndSlow_ok (n : Nat) (mss : Int) (many : Int) (mean : Int) (r : Bool) (h : f8_broughamlaw13_CwndSlow n mss many mean = some r) : FnOK Go.Proofs.Try.prog 8 (f8_broughamlaw13_CwndSlow_in mss many mean) (f8_broughamlaw13_CwndSlow_out r) := by
  unfold f8_broughamlaw13_CwndSlow at h
  refine At.fn (r := 0) Go.Proofs.Try.func8 rfl (by kernel_rfl) rfl rfl (by kernel_rfl) ?_
  show At Go.Proofs.Try.prog Go.Proofs.Try.f8 0 0 ⟨[(0, .one (.c (.d (.int .i64 mss)))), (1, .one (.c (.d (.int .i64 many)))), (2, .one (.c (.d (.int .i64 mean))))], [], [], 0⟩ _
  refine At.step hm ht ⟨[], [], [], [0, 1, 2], []⟩ 1 ⟨[(0, .one (.c (.d (.int .i64 mss)))), (1, .one (.c (.d (.int .i64 many)))), (2, .one (.c (.d (.int .i64 mean))))], [], [], 0⟩ [] (by kernel_rfl) trivial ?_
  rcases iteS h with ⟨b133_2, h⟩ | ⟨b133_2, h⟩
  · refine At.step hm ht ⟨[(2, .b true)], [true], [], [], []⟩ 2 ⟨[], [], [], 0⟩ [(decide ((mss : Int) < 1)) = true, true = true] (by kernel_rfl) ⟨b133_2, rfl, trivial⟩ ?_
    have h := Option.some.inj h
    subst h
    exact At.fin hm ht ⟨[], [], [], [6], []⟩ [] (by kernel_rfl) trivial
  · rcases iteS h with ⟨b133_6, h⟩ | ⟨b133_6, h⟩
    · refine At.step hm ht ⟨[(2, .b false), (6, .b true)], [true], [], [], []⟩ 2 ⟨[], [], [], 0⟩ [(decide ((mss : Int) < 1)) = false, (decide ((mss : Int) > 1000)) = true, true = true] (by kernel_rfl) ⟨b133_2, b133_6, rfl, trivial⟩ ?_
      have h := Option.some.inj h
      subst h
      exact At.fin hm ht ⟨[], [], [], [6], []⟩ [] (by kernel_rfl) trivial
    · rcases iteS h with ⟨b133_10, h⟩ | ⟨b133_10, h⟩
      · refine At.step hm ht ⟨[(2, .b false), (6, .b false), (10, .b true)], [true], [], [], []⟩ 2 ⟨[], [], [], 0⟩ [(decide ((mss : Int) < 1)) = false, (decide ((mss : Int) > 1000)) = false, (decide ((many : Int) < 0)) = true, true = true] (by kernel_rfl) ⟨b133_2, b133_6, b133_10, rfl, trivial⟩ ?_
        have h := Option.some.inj h
        subst h
        exact At.fin hm ht ⟨[], [], [], [6], []⟩ [] (by kernel_rfl) trivial
      · rcases iteS h with ⟨b133_14, h⟩ | ⟨b133_14, h⟩
        · refine At.step hm ht ⟨[(2, .b false), (6, .b false), (10, .b false), (14, .b true)], [true], [], [], []⟩ 2 ⟨[], [], [], 0⟩ [(decide ((mss : Int) < 1)) = false, (decide ((mss : Int) > 1000)) = false, (decide ((many : Int) < 0)) = false, (decide ((many : Int) > 300)) = true, true = true] (by kernel_rfl) ⟨b133_2, b133_6, b133_10, b133_14, rfl, trivial⟩ ?_
          have h := Option.some.inj h
          subst h
          exact At.fin hm ht ⟨[], [], [], [6], []⟩ [] (by kernel_rfl) trivial
        · rcases iteS h with ⟨b133_18, h⟩ | ⟨b133_18, h⟩
          · refine At.step hm ht ⟨[(2, .b false), (6, .b false), (10, .b false), (14, .b false), (18, .b true)], [true], [], [], []⟩ 2 ⟨[], [], [], 0⟩ [(decide ((mss : Int) < 1)) = false, (decide ((mss : Int) > 1000)) = false, (decide ((many : Int) < 0)) = false, (decide ((many : Int) > 300)) = false, (decide ((mean : Int) < 1)) = true, true = true] (by kernel_rfl) ⟨b133_2, b133_6, b133_10, b133_14, b133_18, rfl, trivial⟩ ?_
            have h := Option.some.inj h
            subst h
            exact At.fin hm ht ⟨[], [], [], [6], []⟩ [] (by kernel_rfl) trivial
          · rcases iteS h with ⟨b133_e0, h⟩ | ⟨b133_e0, h⟩
            · refine At.step hm ht ⟨[(2, .b false), (6, .b false), (10, .b false), (14, .b false), (18, .b false)], [true], [], [], []⟩ 2 ⟨[], [], [], 0⟩ [(decide ((mss : Int) < 1)) = false, (decide ((mss : Int) > 1000)) = false, (decide ((many : Int) < 0)) = false, (decide ((many : Int) > 300)) = false, (decide ((mean : Int) < 1)) = false, (decide ((mean : Int) > 500)) = true] (by kernel_rfl) ⟨b133_2, b133_6, b133_10, b133_14, b133_18, b133_e0, trivial⟩ ?_
              have h := Option.some.inj h
              subst h
              exact At.fin hm ht ⟨[], [], [], [6], []⟩ [] (by kernel_rfl) trivial
            · refine At.step hm ht ⟨[(2, .b false), (6, .b false), (10, .b false), (14, .b false), (18, .b false)], [false], [], [0, 1, 2], []⟩ 3 ⟨[(0, .one (.c (.d (.int .i64 mss)))), (1, .one (.c (.d (.int .i64 many)))), (2, .one (.c (.d (.int .i64 mean))))], [], [], 0⟩ [(decide ((mss : Int) < 1)) = false, (decide ((mss : Int) > 1000)) = false, (decide ((many : Int) < 0)) = false, (decide ((many : Int) > 300)) = false, (decide ((mean : Int) < 1)) = false, (decide ((mean : Int) > 500)) = false] (by kernel_rfl) ⟨b133_2, b133_6, b133_10, b133_14, b133_18, b133_e0, trivial⟩ ?_
              obtain ⟨r140_0, cr140_0, h⟩ := bindS h
              refine At.step hm ht ⟨[(1, .call [] [] (f42_cwnd_New_out r140_0))], [], [], [0, 1, 2, 7], [1]⟩ 4 ⟨[(0, .one (.c (.d (.int .i64 mss)))), (1, .one (.c (.d (.int .i64 many)))), (2, .one (.c (.d (.int .i64 mean)))), (7, .one (.c (.ptr 0 0)))], [], [(0, [.d (.int .i64 r140_0.1), .d (.int .i64 r140_0.2.1), .d (.int .i64 r140_0.2.2.1), .d (.int .i64 r140_0.2.2.2.1), .d (.int .i64 r140_0.2.2.2.2)])], 1⟩ [FnOK Go.Proofs.Try.prog 42 (f42_cwnd_New_in mss) (f42_cwnd_New_out r140_0)] (by kernel_rfl) ⟨(f42_cwnd_New_ok mss r140_0 cr140_0), trivial⟩ ?_
              refine At.step hm ht ⟨[], [false], [], [0, 1, 2, 7], [0]⟩ 6 ⟨[(0, .one (.c (.d (.int .i64 mss)))), (1, .one (.c (.d (.int .i64 many)))), (2, .one (.c (.d (.int .i64 mean)))), (7, .one (.c (.ptr 0 0)))], [], [(0, [.d (.int .i64 r140_0.1), .d (.int .i64 r140_0.2.1), .d (.int .i64 r140_0.2.2.1), .d (.int .i64 r140_0.2.2.2.1), .d (.int .i64 r140_0.2.2.2.2)])], 1⟩ [false = false] (by kernel_rfl) ⟨rfl, trivial⟩ ?_
              refine At.step hm ht ⟨[], [], [], [0, 1, 2, 7, 8], [0]⟩ 7 ⟨[(0, .one (.c (.d (.int .i64 mss)))), (1, .one (.c (.d (.int .i64 many)))), (2, .one (.c (.d (.int .i64 mean)))), (7, .one (.c (.ptr 0 0))), (8, .one (.c (.d (.int .i64 0))))], [], [(0, [.d (.int .i64 r140_0.1), .d (.int .i64 r140_0.2.1), .d (.int .i64 r140_0.2.2.1), .d (.int .i64 r140_0.2.2.2.1), .d (.int .i64 r140_0.2.2.2.2)])], 1⟩ [] (by kernel_rfl) trivial ?_
              obtain ⟨w146, cw146, h⟩ := bindS h
              refine f8_broughamlaw13_CwndSlow_L7_ok n mss many mean 0 r140_0.1 r140_0.2.1 r140_0.2.2.1 r140_0.2.2.2.1 r140_0.2.2.2.2 w146 cw146 _ ?_
              show At Go.Proofs.Try.prog Go.Proofs.Try.f8 0 10 ⟨[(0, .one (.c (.d (.int .i64 w146.1)))), (1, .one (.c (.d (.int .i64 w146.2.1)))), (2, .one (.c (.d (.int .i64 w146.2.2.1)))), (7, .one (.c (.ptr 0 0)))], [], [(0, [.d (.int .i64 w146.2.2.2.1), .d (.int .i64 w146.2.2.2.2.1), .d (.int .i64 w146.2.2.2.2.2.1), .d (.int .i64 w146.2.2.2.2.2.2.1), .d (.int .i64 w146.2.2.2.2.2.2.2)])], 1⟩ _
              obtain ⟨r148_0, cr148_0, h⟩ := bindS h
              refine At.step hm ht ⟨[(1, .call [0] [] (f44_cwnd_Window_Size_out r148_0))], [], [], [0, 1, 2, 7, 9], [0]⟩ 11 ⟨[(0, .one (.c (.d (.int .i64 w146.1)))), (1, .one (.c (.d (.int .i64 w146.2.1)))), (2, .one (.c (.d (.int .i64 w146.2.2.1)))), (7, .one (.c (.ptr 0 0))), (9, .one (.c (.d (.int .i64 (IntKind.wrap .i64 (Int.tdiv r148_0.1 2))))))], [], [(0, [.d (.int .i64 r148_0.2.1), .d (.int .i64 r148_0.2.2.1), .d (.int .i64 r148_0.2.2.2.1), .d (.int .i64 r148_0.2.2.2.2.1), .d (.int .i64 r148_0.2.2.2.2.2)])], 1⟩ [FnOK Go.Proofs.Try.prog 44 (f44_cwnd_Window_Size_in w146.2.2.2.1 w146.2.2.2.2.1 w146.2.2.2.2.2.1 w146.2.2.2.2.2.2.1 w146.2.2.2.2.2.2.2) (f44_cwnd_Window_Size_out r148_0), (2 : Int) ≠ 0] (by kernel_rfl) ⟨(f44_cwnd_Window_Size_ok w146.2.2.2.1 w146.2.2.2.2.1 w146.2.2.2.2.2.1 w146.2.2.2.2.2.2.1 w146.2.2.2.2.2.2.2 r148_0 cr148_0), (by decide), trivial⟩ ?_
              obtain ⟨r149_0, cr149_0, h⟩ := bindS h
              refine At.step hm ht ⟨[(1, .call [0] [] (f45_cwnd_Window_Lost_out r149_0))], [], [], [0, 1, 2, 7, 9], [0]⟩ 12 ⟨[(0, .one (.c (.d (.int .i64 w146.1)))), (1, .one (.c (.d (.int .i64 w146.2.1)))), (2, .one (.c (.d (.int .i64 w146.2.2.1)))), (7, .one (.c (.ptr 0 0))), (9, .one (.c (.d (.int .i64 (IntKind.wrap .i64 (Int.tdiv r148_0.1 2))))))], [], [(0, [.d (.int .i64 r149_0.1), .d (.int .i64 r149_0.2.1), .d (.int .i64 r149_0.2.2.1), .d (.int .i64 r149_0.2.2.2.1), .d (.int .i64 r149_0.2.2.2.2)])], 1⟩ [FnOK Go.Proofs.Try.prog 45 (f45_cwnd_Window_Lost_in 0 r148_0.2.1 r148_0.2.2.1 r148_0.2.2.2.1 r148_0.2.2.2.2.1 r148_0.2.2.2.2.2) (f45_cwnd_Window_Lost_out r149_0)] (by kernel_rfl) ⟨(f45_cwnd_Window_Lost_ok 0 r148_0.2.1 r148_0.2.2.1 r148_0.2.2.2.1 r148_0.2.2.2.2.1 r148_0.2.2.2.2.2 r149_0 cr149_0), trivial⟩ ?_
              refine At.step hm ht ⟨[], [], [], [0, 1, 2, 7, 9, 10], [0]⟩ 13 ⟨[(0, .one (.c (.d (.int .i64 w146.1)))), (1, .one (.c (.d (.int .i64 w146.2.1)))), (2, .one (.c (.d (.int .i64 w146.2.2.1)))), (7, .one (.c (.ptr 0 0))), (9, .one (.c (.d (.int .i64 (IntKind.wrap .i64 (Int.tdiv r148_0.1 2)))))), (10, .one (.c (.d (.int .i64 0))))], [], [(0, [.d (.int .i64 r149_0.1), .d (.int .i64 r149_0.2.1), .d (.int .i64 r149_0.2.2.1), .d (.int .i64 r149_0.2.2.2.1), .d (.int .i64 r149_0.2.2.2.2)])], 1⟩ [] (by kernel_rfl) trivial ?_
              obtain ⟨w157, cw157, h⟩ := bindS h
              refine f8_broughamlaw13_CwndSlow_L13_ok n w146.1 w146.2.1 w146.2.2.1 (IntKind.wrap .i64 (Int.tdiv r148_0.1 2)) 0 r149_0.1 r149_0.2.1 r149_0.2.2.1 r149_0.2.2.2.1 r149_0.2.2.2.2 w157 cw157 _ ?_
              rcases w157 with e158 | e159
              · have h := Option.some.inj h
                subst h
                rfl
              · show At Go.Proofs.Try.prog Go.Proofs.Try.f8 0 19 ⟨[(0, .one (.c (.d (.int .i64 e159.1)))), (1, .one (.c (.d (.int .i64 e159.2.1)))), (2, .one (.c (.d (.int .i64 e159.2.2.1)))), (7, .one (.c (.ptr 0 0))), (9, .one (.c (.d (.int .i64 e159.2.2.2.1))))], [], [(0, [.d (.int .i64 e159.2.2.2.2.1), .d (.int .i64 e159.2.2.2.2.2.1), .d (.int .i64 e159.2.2.2.2.2.2.1), .d (.int .i64 e159.2.2.2.2.2.2.2.1), .d (.int .i64 e159.2.2.2.2.2.2.2.2)])], 1⟩ _
                obtain ⟨r160_0, cr160_0, h⟩ := bindS h
                refine At.step hm ht ⟨[(1, .call [0] [] (f44_cwnd_Window_Size_out r160_0))], [], [], [0, 1, 2, 7, 9, 12, 13], [0]⟩ 20 ⟨[(0, .one (.c (.d (.int .i64 e159.1)))), (1, .one (.c (.d (.int .i64 e159.2.1)))), (2, .one (.c (.d (.int .i64 e159.2.2.1)))), (7, .one (.c (.ptr 0 0))), (9, .one (.c (.d (.int .i64 e159.2.2.2.1)))), (12, .one (.c (.d (.int .i64 r160_0.1)))), (13, .one (.c (.d (.int .i64 0))))], [], [(0, [.d (.int .i64 r160_0.2.1), .d (.int .i64 r160_0.2.2.1), .d (.int .i64 r160_0.2.2.2.1), .d (.int .i64 r160_0.2.2.2.2.1), .d (.int .i64 r160_0.2.2.2.2.2)])], 1⟩ [FnOK Go.Proofs.Try.prog 44 (f44_cwnd_Window_Size_in e159.2.2.2.2.1 e159.2.2.2.2.2.1 e159.2.2.2.2.2.2.1 e159.2.2.2.2.2.2.2.1 e159.2.2.2.2.2.2.2.2) (f44_cwnd_Window_Size_out r160_0)] (by kernel_rfl) ⟨(f44_cwnd_Window_Size_ok e159.2.2.2.2.1 e159.2.2.2.2.2.1 e159.2.2.2.2.2.2.1 e159.2.2.2.2.2.2.2.1 e159.2.2.2.2.2.2.2.2 r160_0 cr160_0), trivial⟩ ?_
                refine At.step hm ht ⟨[], [], [], [0, 1, 2, 7, 9, 12, 13, 14], [0]⟩ 21 ⟨[(0, .one (.c (.d (.int .i64 e159.1)))), (1, .one (.c (.d (.int .i64 e159.2.1)))), (2, .one (.c (.d (.int .i64 e159.2.2.1)))), (7, .one (.c (.ptr 0 0))), (9, .one (.c (.d (.int .i64 e159.2.2.2.1)))), (12, .one (.c (.d (.int .i64 r160_0.1)))), (13, .one (.c (.d (.int .i64 0)))), (14, .one (.c (.d (.int .i64 0))))], [], [(0, [.d (.int .i64 r160_0.2.1), .d (.int .i64 r160_0.2.2.1), .d (.int .i64 r160_0.2.2.2.1), .d (.int .i64 r160_0.2.2.2.2.1), .d (.int .i64 r160_0.2.2.2.2.2)])], 1⟩ [] (by kernel_rfl) trivial ?_
                obtain ⟨w166, cw166, h⟩ := bindS h
                refine f8_broughamlaw13_CwndSlow_L21_ok n e159.1 e159.2.1 e159.2.2.1 e159.2.2.2.1 r160_0.1 0 0 r160_0.2.1 r160_0.2.2.1 r160_0.2.2.2.1 r160_0.2.2.2.2.1 r160_0.2.2.2.2.2 w166 cw166 _ ?_
                show At Go.Proofs.Try.prog Go.Proofs.Try.f8 0 25 ⟨[(0, .one (.c (.d (.int .i64 w166.1)))), (7, .one (.c (.ptr 0 0))), (9, .one (.c (.d (.int .i64 w166.2.1)))), (12, .one (.c (.d (.int .i64 w166.2.2.1)))), (13, .one (.c (.d (.int .i64 w166.2.2.2.1))))], [], [(0, [.d (.int .i64 w166.2.2.2.2.1), .d (.int .i64 w166.2.2.2.2.2.1), .d (.int .i64 w166.2.2.2.2.2.2.1), .d (.int .i64 w166.2.2.2.2.2.2.2.1), .d (.int .i64 w166.2.2.2.2.2.2.2.2)])], 1⟩ _
                rcases iteS h with ⟨b168_3, h⟩ | ⟨b168_3, h⟩
                · rcases iteS h with ⟨b168_10, h⟩ | ⟨b168_10, h⟩
                  · obtain ⟨r168_0, cr168_0, h⟩ := bindS h
                    rcases iteS h with ⟨b168_16, h⟩ | ⟨b168_16, h⟩
                    · obtain ⟨r168_1, cr168_1, h⟩ := bindS h
                      obtain ⟨g168_2, h⟩ := ifS h
                      rcases iteS h with ⟨b168_29, h⟩ | ⟨b168_29, h⟩
                      · obtain ⟨r168_3, cr168_3, h⟩ := bindS h
                        have h := Option.some.inj h
                        subst h
                        exact At.fin hm ht ⟨[(3, .b true), (10, .b true), (12, .call [0] [] (f44_cwnd_Window_Size_out r168_0)), (16, .b true), (18, .call [0] [] (f44_cwnd_Window_Size_out r168_1)), (29, .b true), (30, .call [] [] (f41_broughamlaw13_alive_out r168_3))], [], [], [6], []⟩ [(decide ((w166.2.2.1 : Int) ≥ w166.2.1)) = true, (decide ((w166.2.2.1 : Int) < (IntKind.wrap .i64 (w166.2.1 + w166.1)))) = true, FnOK Go.Proofs.Try.prog 44 (f44_cwnd_Window_Size_in w166.2.2.2.2.1 w166.2.2.2.2.2.1 w166.2.2.2.2.2.2.1 w166.2.2.2.2.2.2.2.1 w166.2.2.2.2.2.2.2.2) (f44_cwnd_Window_Size_out r168_0), (decide ((r168_0.1 : Int) ≥ w166.2.2.1)) = true, FnOK Go.Proofs.Try.prog 44 (f44_cwnd_Window_Size_in r168_0.2.1 r168_0.2.2.1 r168_0.2.2.2.1 r168_0.2.2.2.2.1 r168_0.2.2.2.2.2) (f44_cwnd_Window_Size_out r168_1), (w166.2.2.1 : Int) ≠ 0, (decide (((IntKind.wrap .i64 (r168_1.1 - w166.2.2.1)) : Int) ≤ (IntKind.wrap .i64 ((IntKind.wrap .i64 (Int.tdiv (IntKind.wrap .i64 (w166.2.2.2.1 * w166.1)) w166.2.2.1)) + 1)))) = true, FnOK Go.Proofs.Try.prog 41 (f41_broughamlaw13_alive_in) (f41_broughamlaw13_alive_out r168_3)] (by kernel_rfl) ⟨b168_3, b168_10, (f44_cwnd_Window_Size_ok w166.2.2.2.2.1 w166.2.2.2.2.2.1 w166.2.2.2.2.2.2.1 w166.2.2.2.2.2.2.2.1 w166.2.2.2.2.2.2.2.2 r168_0 cr168_0), b168_16, (f44_cwnd_Window_Size_ok r168_0.2.1 r168_0.2.2.1 r168_0.2.2.2.1 r168_0.2.2.2.2.1 r168_0.2.2.2.2.2 r168_1 cr168_1), g168_2, b168_29, (f41_broughamlaw13_alive_ok n r168_3 cr168_3), trivial⟩
                      · have h := Option.some.inj h
                        subst h
                        exact At.fin hm ht ⟨[(3, .b true), (10, .b true), (12, .call [0] [] (f44_cwnd_Window_Size_out r168_0)), (16, .b true), (18, .call [0] [] (f44_cwnd_Window_Size_out r168_1)), (29, .b false)], [], [], [6], []⟩ [(decide ((w166.2.2.1 : Int) ≥ w166.2.1)) = true, (decide ((w166.2.2.1 : Int) < (IntKind.wrap .i64 (w166.2.1 + w166.1)))) = true, FnOK Go.Proofs.Try.prog 44 (f44_cwnd_Window_Size_in w166.2.2.2.2.1 w166.2.2.2.2.2.1 w166.2.2.2.2.2.2.1 w166.2.2.2.2.2.2.2.1 w166.2.2.2.2.2.2.2.2) (f44_cwnd_Window_Size_out r168_0), (decide ((r168_0.1 : Int) ≥ w166.2.2.1)) = true, FnOK Go.Proofs.Try.prog 44 (f44_cwnd_Window_Size_in r168_0.2.1 r168_0.2.2.1 r168_0.2.2.2.1 r168_0.2.2.2.2.1 r168_0.2.2.2.2.2) (f44_cwnd_Window_Size_out r168_1), (w166.2.2.1 : Int) ≠ 0, (decide (((IntKind.wrap .i64 (r168_1.1 - w166.2.2.1)) : Int) ≤ (IntKind.wrap .i64 ((IntKind.wrap .i64 (Int.tdiv (IntKind.wrap .i64 (w166.2.2.2.1 * w166.1)) w166.2.2.1)) + 1)))) = false] (by kernel_rfl) ⟨b168_3, b168_10, (f44_cwnd_Window_Size_ok w166.2.2.2.2.1 w166.2.2.2.2.2.1 w166.2.2.2.2.2.2.1 w166.2.2.2.2.2.2.2.1 w166.2.2.2.2.2.2.2.2 r168_0 cr168_0), b168_16, (f44_cwnd_Window_Size_ok r168_0.2.1 r168_0.2.2.1 r168_0.2.2.2.1 r168_0.2.2.2.2.1 r168_0.2.2.2.2.2 r168_1 cr168_1), g168_2, b168_29, trivial⟩
                    · have h := Option.some.inj h
                      subst h
                      exact At.fin hm ht ⟨[(3, .b true), (10, .b true), (12, .call [0] [] (f44_cwnd_Window_Size_out r168_0)), (16, .b false)], [], [], [6], []⟩ [(decide ((w166.2.2.1 : Int) ≥ w166.2.1)) = true, (decide ((w166.2.2.1 : Int) < (IntKind.wrap .i64 (w166.2.1 + w166.1)))) = true, FnOK Go.Proofs.Try.prog 44 (f44_cwnd_Window_Size_in w166.2.2.2.2.1 w166.2.2.2.2.2.1 w166.2.2.2.2.2.2.1 w166.2.2.2.2.2.2.2.1 w166.2.2.2.2.2.2.2.2) (f44_cwnd_Window_Size_out r168_0), (decide ((r168_0.1 : Int) ≥ w166.2.2.1)) = false] (by kernel_rfl) ⟨b168_3, b168_10, (f44_cwnd_Window_Size_ok w166.2.2.2.2.1 w166.2.2.2.2.2.1 w166.2.2.2.2.2.2.1 w166.2.2.2.2.2.2.2.1 w166.2.2.2.2.2.2.2.2 r168_0 cr168_0), b168_16, trivial⟩
                  · have h := Option.some.inj h
                    subst h
                    exact At.fin hm ht ⟨[(3, .b true), (10, .b false)], [], [], [6], []⟩ [(decide ((w166.2.2.1 : Int) ≥ w166.2.1)) = true, (decide ((w166.2.2.1 : Int) < (IntKind.wrap .i64 (w166.2.1 + w166.1)))) = false] (by kernel_rfl) ⟨b168_3, b168_10, trivial⟩
                · have h := Option.some.inj h
                  subst h
                  exact At.fin hm ht ⟨[(3, .b false)], [], [], [6], []⟩ [(decide ((w166.2.2.1 : Int) ≥ w166.2.1)) = false] (by kernel_rfl) ⟨b168_3, trivial⟩
/-! brougham/broughamref13.New -/
def f46_broughamref13_New_in (mss : Int) : Inn := ⟨[.c (.d (.int .i64 mss))], [], [], 0⟩
def f46_broughamref13_New_out (r : Int × Int × Int × Int × Int) : Out := ⟨.one (.agg [.d (.int .i64 r.1), .d (.int .i64 r.2.1), .d (.int .i64 r.2.2.1), .d (.int .i64 r.2.2.2.1), .d (.int .i64 r.2.2.2.2)]), [], [(0, [.d (.int .i64 r.1), .d (.int .i64 r.2.1), .d (.int .i64 r.2.2.1), .d (.int .i64 r.2.2.2.1), .d (.int .i64 r.2.2.2.2)])], 1⟩
def f46_broughamref13_New (mss : Int) : Option (Int × Int × Int × Int × Int) :=
  (f71_broughamref13_within mss 1 1024).bind fun r176_0 =>
  some (r176_0, (IntKind.wrap .i64 (4 * r176_0)), (IntKind.wrap .i64 (64 * r176_0)), 0, 0)
theorem f46_broughamref13_New_ok (mss : Int) (r : Int × Int × Int × Int × Int) (h : f46_broughamref13_New mss = some r) : FnOK Go.Proofs.Try.prog 46 (f46_broughamref13_New_in mss) (f46_broughamref13_New_out r) := by
  unfold f46_broughamref13_New at h
  refine At.fn (r := 0) Go.Proofs.Try.func46 rfl (by kernel_rfl) rfl rfl (by kernel_rfl) ?_
  show At Go.Proofs.Try.prog Go.Proofs.Try.f46 0 0 ⟨[(0, .one (.c (.d (.int .i64 mss))))], [], [], 0⟩ _
  refine At.step hm ht ⟨[], [], [], [0, 2], [0]⟩ 1 ⟨[(0, .one (.c (.d (.int .i64 mss)))), (2, .one (.c (.ptr 0 0)))], [], [(0, [.d (.int .i64 0), .d (.int .i64 0), .d (.int .i64 0), .d (.int .i64 0), .d (.int .i64 0)])], 1⟩ [] (by kernel_rfl) trivial ?_
  obtain ⟨r176_0, cr176_0, h⟩ := bindS h
  refine At.step hm ht ⟨[(1, .call [] [] (f71_broughamref13_within_out r176_0))], [], [], [2, 3], [0]⟩ 2 ⟨[(2, .one (.c (.ptr 0 0))), (3, .one (.c (.d (.int .i64 r176_0))))], [], [(0, [.d (.int .i64 0), .d (.int .i64 0), .d (.int .i64 0), .d (.int .i64 0), .d (.int .i64 0)])], 1⟩ [FnOK Go.Proofs.Try.prog 71 (f71_broughamref13_within_in mss 1 1024) (f71_broughamref13_within_out r176_0)] (by kernel_rfl) ⟨(f71_broughamref13_within_ok mss 1 1024 r176_0 cr176_0), trivial⟩ ?_
  have h := Option.some.inj h
  subst h
  exact At.fin hm ht ⟨[], [], [], [2], [0]⟩ [0 + 5 ≤ 5] (by kernel_rfl) ⟨(by decide), trivial⟩
/-! brougham/broughamref13.Sent -/
def f48_broughamref13_Sent_in (w_0 : Int) (w_1 : Int) (w_2 : Int) (w_3 : Int) (w_4 : Int) (n_ : Int) : Inn := ⟨[.agg [.d (.int .i64 w_0), .d (.int .i64 w_1), .d (.int .i64 w_2), .d (.int .i64 w_3), .d (.int .i64 w_4)], .c (.d (.int .i64 n_))], [], [], 0⟩
def f48_broughamref13_Sent_out (r : Int × Int × Int × Int × Int) : Out := ⟨.one (.agg [.d (.int .i64 r.1), .d (.int .i64 r.2.1), .d (.int .i64 r.2.2.1), .d (.int .i64 r.2.2.2.1), .d (.int .i64 r.2.2.2.2)]), [], [(0, [.d (.int .i64 r.1), .d (.int .i64 r.2.1), .d (.int .i64 r.2.2.1), .d (.int .i64 r.2.2.2.1), .d (.int .i64 r.2.2.2.2)])], 1⟩
def f48_broughamref13_Sent (w_0 : Int) (w_1 : Int) (w_2 : Int) (w_3 : Int) (w_4 : Int) (n_ : Int) : Option (Int × Int × Int × Int × Int) :=
  (f71_broughamref13_within n_ 0 1024).bind fun r187_0 =>
  some (w_0, w_1, w_2, w_3, (IntKind.wrap .i64 (w_4 + r187_0)))
theorem f48_broughamref13_Sent_ok (w_0 : Int) (w_1 : Int) (w_2 : Int) (w_3 : Int) (w_4 : Int) (n_ : Int) (r : Int × Int × Int × Int × Int) (h : f48_broughamref13_Sent w_0 w_1 w_2 w_3 w_4 n_ = some r) : FnOK Go.Proofs.Try.prog 48 (f48_broughamref13_Sent_in w_0 w_1 w_2 w_3 w_4 n_) (f48_broughamref13_Sent_out r) := by
  unfold f48_broughamref13_Sent at h
  refine At.fn (r := 0) Go.Proofs.Try.func48 rfl (by kernel_rfl) rfl rfl (by kernel_rfl) ?_
  show At Go.Proofs.Try.prog Go.Proofs.Try.f48 0 0 ⟨[(0, .one (.agg [.d (.int .i64 w_0), .d (.int .i64 w_1), .d (.int .i64 w_2), .d (.int .i64 w_3), .d (.int .i64 w_4)])), (1, .one (.c (.d (.int .i64 n_))))], [], [], 0⟩ _
  refine At.step hm ht ⟨[], [], [], [1, 2, 4], [0, 1]⟩ 1 ⟨[(1, .one (.c (.d (.int .i64 n_)))), (2, .one (.c (.ptr 0 0))), (4, .one (.c (.ptr 1 0)))], [], [(0, [.d (.int .i64 w_0), .d (.int .i64 w_1), .d (.int .i64 w_2), .d (.int .i64 w_3), .d (.int .i64 w_4)]), (1, [.d (.int .i64 0), .d (.int .i64 0), .d (.int .i64 0), .d (.int .i64 0), .d (.int .i64 0)])], 2⟩ [] (by kernel_rfl) trivial ?_
  obtain ⟨r187_0, cr187_0, h⟩ := bindS h
  refine At.step hm ht ⟨[(3, .call [] [] (f71_broughamref13_within_out r187_0))], [], [], [2, 4], [0, 1]⟩ 2 ⟨[(2, .one (.c (.ptr 0 0))), (4, .one (.c (.ptr 1 0)))], [], [(0, [.d (.int .i64 w_0), .d (.int .i64 w_1), .d (.int .i64 w_2), .d (.int .i64 w_3), .d (.int .i64 (IntKind.wrap .i64 (w_4 + r187_0)))]), (1, [.d (.int .i64 0), .d (.int .i64 0), .d (.int .i64 0), .d (.int .i64 0), .d (.int .i64 0)])], 2⟩ [FnOK Go.Proofs.Try.prog 71 (f71_broughamref13_within_in n_ 0 1024) (f71_broughamref13_within_out r187_0), 4 + 1 ≤ 5] (by kernel_rfl) ⟨(f71_broughamref13_within_ok n_ 0 1024 r187_0 cr187_0), (by decide), trivial⟩ ?_
  have h := Option.some.inj h
  subst h
  exact At.fin hm ht ⟨[], [], [], [4], [1]⟩ [0 + 5 ≤ 5] (by kernel_rfl) ⟨(by decide), trivial⟩
/-! brougham/broughamref13.Room -/
def f55_broughamref13_Room_in (w_0 : Int) (w_1 : Int) (w_2 : Int) (w_3 : Int) (w_4 : Int) : Inn := ⟨[.agg [.d (.int .i64 w_0), .d (.int .i64 w_1), .d (.int .i64 w_2), .d (.int .i64 w_3), .d (.int .i64 w_4)]], [], [], 0⟩
def f55_broughamref13_Room_out (r : Int) : Out := ⟨.one (.c (.d (.int .i64 r))), [], [], 0⟩
def f55_broughamref13_Room (w_0 : Int) (w_1 : Int) (w_2 : Int) (w_3 : Int) (w_4 : Int) : Option (Int) :=
  (f71_broughamref13_within (IntKind.wrap .i64 (w_1 - w_4)) 0 w_1).bind fun r193_0 =>
  some r193_0
theorem f55_broughamref13_Room_ok (w_0 : Int) (w_1 : Int) (w_2 : Int) (w_3 : Int) (w_4 : Int) (r : Int) (h : f55_broughamref13_Room w_0 w_1 w_2 w_3 w_4 = some r) : FnOK Go.Proofs.Try.prog 55 (f55_broughamref13_Room_in w_0 w_1 w_2 w_3 w_4) (f55_broughamref13_Room_out r) := by
  unfold f55_broughamref13_Room at h
  refine At.fn (r := 0) Go.Proofs.Try.func55 rfl (by kernel_rfl) rfl rfl (by kernel_rfl) ?_
  show At Go.Proofs.Try.prog Go.Proofs.Try.f55 0 0 ⟨[(0, .one (.agg [.d (.int .i64 w_0), .d (.int .i64 w_1), .d (.int .i64 w_2), .d (.int .i64 w_3), .d (.int .i64 w_4)]))], [], [], 0⟩ _
  refine At.step hm ht ⟨[], [], [], [1], [0]⟩ 1 ⟨[(1, .one (.c (.ptr 0 0)))], [], [(0, [.d (.int .i64 w_0), .d (.int .i64 w_1), .d (.int .i64 w_2), .d (.int .i64 w_3), .d (.int .i64 w_4)])], 1⟩ [] (by kernel_rfl) trivial ?_
  obtain ⟨r193_0, cr193_0, h⟩ := bindS h
  have h := Option.some.inj h
  subst h
  exact At.fin hm ht ⟨[(7, .call [] [] (f71_broughamref13_within_out r193_0))], [], [], [2], []⟩ [FnOK Go.Proofs.Try.prog 71 (f71_broughamref13_within_in (IntKind.wrap .i64 (w_1 - w_4)) 0 w_1) (f71_broughamref13_within_out r193_0)] (by kernel_rfl) ⟨(f71_broughamref13_within_ok (IntKind.wrap .i64 (w_1 - w_4)) 0 w_1 r193_0 cr193_0), trivial⟩
/-! brougham/broughamref13.Gone -/
def f51_broughamref13_Gone_in (w_0 : Int) (w_1 : Int) (w_2 : Int) (w_3 : Int) (w_4 : Int) (n_ : Int) : Inn := ⟨[.agg [.d (.int .i64 w_0), .d (.int .i64 w_1), .d (.int .i64 w_2), .d (.int .i64 w_3), .d (.int .i64 w_4)], .c (.d (.int .i64 n_))], [], [], 0⟩
def f51_broughamref13_Gone_out (r : Int × Int × Int × Int × Int) : Out := ⟨.one (.agg [.d (.int .i64 r.1), .d (.int .i64 r.2.1), .d (.int .i64 r.2.2.1), .d (.int .i64 r.2.2.2.1), .d (.int .i64 r.2.2.2.2)]), [], [(0, [.d (.int .i64 r.1), .d (.int .i64 r.2.1), .d (.int .i64 r.2.2.1), .d (.int .i64 r.2.2.2.1), .d (.int .i64 r.2.2.2.2)])], 1⟩
def f51_broughamref13_Gone (w_0 : Int) (w_1 : Int) (w_2 : Int) (w_3 : Int) (w_4 : Int) (n_ : Int) : Option (Int × Int × Int × Int × Int) :=
  (f71_broughamref13_within n_ 0 1024).bind fun r206_0 =>
  (f71_broughamref13_within (IntKind.wrap .i64 (w_4 - r206_0)) 0 w_4).bind fun r206_1 =>
  some (w_0, w_1, w_2, w_3, r206_1)
theorem f51_broughamref13_Gone_ok (w_0 : Int) (w_1 : Int) (w_2 : Int) (w_3 : Int) (w_4 : Int) (n_ : Int) (r : Int × Int × Int × Int × Int) (h : f51_broughamref13_Gone w_0 w_1 w_2 w_3 w_4 n_ = some r) : FnOK Go.Proofs.Try.prog 51 (f51_broughamref13_Gone_in w_0 w_1 w_2 w_3 w_4 n_) (f51_broughamref13_Gone_out r) := by
  unfold f51_broughamref13_Gone at h
  refine At.fn (r := 0) Go.Proofs.Try.func51 rfl (by kernel_rfl) rfl rfl (by kernel_rfl) ?_
  show At Go.Proofs.Try.prog Go.Proofs.Try.f51 0 0 ⟨[(0, .one (.agg [.d (.int .i64 w_0), .d (.int .i64 w_1), .d (.int .i64 w_2), .d (.int .i64 w_3), .d (.int .i64 w_4)])), (1, .one (.c (.d (.int .i64 n_))))], [], [], 0⟩ _
  refine At.step hm ht ⟨[], [], [], [1, 2, 4], [0, 1]⟩ 1 ⟨[(1, .one (.c (.d (.int .i64 n_)))), (2, .one (.c (.ptr 0 0))), (4, .one (.c (.ptr 1 0)))], [], [(0, [.d (.int .i64 w_0), .d (.int .i64 w_1), .d (.int .i64 w_2), .d (.int .i64 w_3), .d (.int .i64 w_4)]), (1, [.d (.int .i64 0), .d (.int .i64 0), .d (.int .i64 0), .d (.int .i64 0), .d (.int .i64 0)])], 2⟩ [] (by kernel_rfl) trivial ?_
  obtain ⟨r206_0, cr206_0, h⟩ := bindS h
  obtain ⟨r206_1, cr206_1, h⟩ := bindS h
  refine At.step hm ht ⟨[(3, .call [] [] (f71_broughamref13_within_out r206_0)), (7, .call [] [] (f71_broughamref13_within_out r206_1))], [], [], [2, 4], [0, 1]⟩ 2 ⟨[(2, .one (.c (.ptr 0 0))), (4, .one (.c (.ptr 1 0)))], [], [(0, [.d (.int .i64 w_0), .d (.int .i64 w_1), .d (.int .i64 w_2), .d (.int .i64 w_3), .d (.int .i64 r206_1)]), (1, [.d (.int .i64 0), .d (.int .i64 0), .d (.int .i64 0), .d (.int .i64 0), .d (.int .i64 0)])], 2⟩ [FnOK Go.Proofs.Try.prog 71 (f71_broughamref13_within_in n_ 0 1024) (f71_broughamref13_within_out r206_0), FnOK Go.Proofs.Try.prog 71 (f71_broughamref13_within_in (IntKind.wrap .i64 (w_4 - r206_0)) 0 w_4) (f71_broughamref13_within_out r206_1), 4 + 1 ≤ 5] (by kernel_rfl) ⟨(f71_broughamref13_within_ok n_ 0 1024 r206_0 cr206_0), (f71_broughamref13_within_ok (IntKind.wrap .i64 (w_4 - r206_0)) 0 w_4 r206_1 cr206_1), (by decide), trivial⟩ ?_
  have h := Option.some.inj h
  subst h
  exact At.fin hm ht ⟨[], [], [], [4], [1]⟩ [0 + 5 ≤ 5] (by kernel_rfl) ⟨(by decide), trivial⟩
/-! brougham/broughamref13.Lost -/
def f49_broughamref13_Lost_in (w_0 : Int) (w_1 : Int) (w_2 : Int) (w_3 : Int) (w_4 : Int) (n_ : Int) : Inn := ⟨[.agg [.d (.int .i64 w_0), .d (.int .i64 w_1), .d (.int .i64 w_2), .d (.int .i64 w_3), .d (.int .i64 w_4)], .c (.d (.int .i64 n_))], [], [], 0⟩
def f49_broughamref13_Lost_out (r : Int × Int × Int × Int × Int) : Out := ⟨.one (.agg [.d (.int .i64 r.1), .d (.int .i64 r.2.1), .d (.int .i64 r.2.2.1), .d (.int .i64 r.2.2.2.1), .d (.int .i64 r.2.2.2.2)]), [], [(0, [.d (.int .i64 r.1), .d (.int .i64 r.2.1), .d (.int .i64 r.2.2.1), .d (.int .i64 r.2.2.2.1), .d (.int .i64 r.2.2.2.2)])], 1⟩
def f49_broughamref13_Lost (w_0 : Int) (w_1 : Int) (w_2 : Int) (w_3 : Int) (w_4 : Int) (n_ : Int) : Option (Int × Int × Int × Int × Int) :=
  (f71_broughamref13_within (IntKind.wrap .i64 (Int.tdiv w_1 2)) (IntKind.wrap .i64 (2 * w_0)) (IntKind.wrap .i64 (w_1 + (IntKind.wrap .i64 (2 * w_0))))).bind fun r202_0 =>
  (f51_broughamref13_Gone w_0 w_0 r202_0 0 w_4 n_).bind fun r204_0 =>
  some (r204_0.1, r204_0.2.1, r204_0.2.2.1, r204_0.2.2.2.1, r204_0.2.2.2.2)
theorem f49_broughamref13_Lost_ok (w_0 : Int) (w_1 : Int) (w_2 : Int) (w_3 : Int) (w_4 : Int) (n_ : Int) (r : Int × Int × Int × Int × Int) (h : f49_broughamref13_Lost w_0 w_1 w_2 w_3 w_4 n_ = some r) : FnOK Go.Proofs.Try.prog 49 (f49_broughamref13_Lost_in w_0 w_1 w_2 w_3 w_4 n_) (f49_broughamref13_Lost_out r) := by
  unfold f49_broughamref13_Lost at h
  refine At.fn (r := 0) Go.Proofs.Try.func49 rfl (by kernel_rfl) rfl rfl (by kernel_rfl) ?_
  show At Go.Proofs.Try.prog Go.Proofs.Try.f49 0 0 ⟨[(0, .one (.agg [.d (.int .i64 w_0), .d (.int .i64 w_1), .d (.int .i64 w_2), .d (.int .i64 w_3), .d (.int .i64 w_4)])), (1, .one (.c (.d (.int .i64 n_))))], [], [], 0⟩ _
  refine At.step hm ht ⟨[], [], [], [1, 2, 4], [0, 1]⟩ 1 ⟨[(1, .one (.c (.d (.int .i64 n_)))), (2, .one (.c (.ptr 0 0))), (4, .one (.c (.ptr 1 0)))], [], [(0, [.d (.int .i64 w_0), .d (.int .i64 w_1), .d (.int .i64 w_2), .d (.int .i64 w_3), .d (.int .i64 w_4)]), (1, [.d (.int .i64 0), .d (.int .i64 0), .d (.int .i64 0), .d (.int .i64 0), .d (.int .i64 0)])], 2⟩ [] (by kernel_rfl) trivial ?_
  obtain ⟨r202_0, cr202_0, h⟩ := bindS h
  refine At.step hm ht ⟨[(12, .call [] [] (f71_broughamref13_within_out r202_0))], [], [], [1, 2, 4], [0, 1]⟩ 2 ⟨[(1, .one (.c (.d (.int .i64 n_)))), (2, .one (.c (.ptr 0 0))), (4, .one (.c (.ptr 1 0)))], [], [(0, [.d (.int .i64 w_0), .d (.int .i64 w_1), .d (.int .i64 r202_0), .d (.int .i64 w_3), .d (.int .i64 w_4)]), (1, [.d (.int .i64 0), .d (.int .i64 0), .d (.int .i64 0), .d (.int .i64 0), .d (.int .i64 0)])], 2⟩ [(2 : Int) ≠ 0, FnOK Go.Proofs.Try.prog 71 (f71_broughamref13_within_in (IntKind.wrap .i64 (Int.tdiv w_1 2)) (IntKind.wrap .i64 (2 * w_0)) (IntKind.wrap .i64 (w_1 + (IntKind.wrap .i64 (2 * w_0))))) (f71_broughamref13_within_out r202_0), 2 + 1 ≤ 5] (by kernel_rfl) ⟨(by decide), (f71_broughamref13_within_ok (IntKind.wrap .i64 (Int.tdiv w_1 2)) (IntKind.wrap .i64 (2 * w_0)) (IntKind.wrap .i64 (w_1 + (IntKind.wrap .i64 (2 * w_0)))) r202_0 cr202_0), (by decide), trivial⟩ ?_
  refine At.step hm ht ⟨[], [], [], [1, 2, 4], [0, 1]⟩ 3 ⟨[(1, .one (.c (.d (.int .i64 n_)))), (2, .one (.c (.ptr 0 0))), (4, .one (.c (.ptr 1 0)))], [], [(0, [.d (.int .i64 w_0), .d (.int .i64 w_0), .d (.int .i64 r202_0), .d (.int .i64 0), .d (.int .i64 w_4)]), (1, [.d (.int .i64 0), .d (.int .i64 0), .d (.int .i64 0), .d (.int .i64 0), .d (.int .i64 0)])], 2⟩ [1 + 1 ≤ 5, 3 + 1 ≤ 5] (by kernel_rfl) ⟨(by decide), (by decide), trivial⟩ ?_
  obtain ⟨r204_0, cr204_0, h⟩ := bindS h
  have h := Option.some.inj h
  subst h
  exact At.fin hm ht ⟨[(2, .call [] [] (f51_broughamref13_Gone_out r204_0))], [], [], [4], [1]⟩ [FnOK Go.Proofs.Try.prog 51 (f51_broughamref13_Gone_in w_0 w_0 r202_0 0 w_4 n_) (f51_broughamref13_Gone_out r204_0), 0 + 5 ≤ 5] (by kernel_rfl) ⟨(f51_broughamref13_Gone_ok w_0 w_0 r202_0 0 w_4 n_ r204_0 cr204_0), (by decide), trivial⟩
/-! (*brougham/cwnd.Window).Forget -/
def f50_cwnd_Window_Forget_in (n_ : Int) (w_0 : Int) (w_1 : Int) (w_2 : Int) (w_3 : Int) (w_4 : Int) : Inn := ⟨[.c (.ptr 0 0), .c (.d (.int .i64 n_))], [], [(0, [.d (.int .i64 w_0), .d (.int .i64 w_1), .d (.int .i64 w_2), .d (.int .i64 w_3), .d (.int .i64 w_4)])], 1⟩
def f50_cwnd_Window_Forget_out (r : Int × Int × Int × Int × Int) : Out := ⟨.tup [], [], [(0, [.d (.int .i64 r.1), .d (.int .i64 r.2.1), .d (.int .i64 r.2.2.1), .d (.int .i64 r.2.2.2.1), .d (.int .i64 r.2.2.2.2)])], 1⟩
def f50_cwnd_Window_Forget (n_ : Int) (w_0 : Int) (w_1 : Int) (w_2 : Int) (w_3 : Int) (w_4 : Int) : Option (Int × Int × Int × Int × Int) :=
  (f73_cwnd_Window_gone n_ w_0 w_1 w_2 w_3 w_4).bind fun r217_0 =>
  some (r217_0.1, r217_0.2.1, r217_0.2.2.1, r217_0.2.2.2.1, r217_0.2.2.2.2)
theorem f50_cwnd_Window_Forget_ok (n_ : Int) (w_0 : Int) (w_1 : Int) (w_2 : Int) (w_3 : Int) (w_4 : Int) (r : Int × Int × Int × Int × Int) (h : f50_cwnd_Window_Forget n_ w_0 w_1 w_2 w_3 w_4 = some r) : FnOK Go.Proofs.Try.prog 50 (f50_cwnd_Window_Forget_in n_ w_0 w_1 w_2 w_3 w_4) (f50_cwnd_Window_Forget_out r) := by
  unfold f50_cwnd_Window_Forget at h
  refine At.fn (r := 0) Go.Proofs.Try.func50 rfl (by kernel_rfl) rfl rfl (by kernel_rfl) ?_
  show At Go.Proofs.Try.prog Go.Proofs.Try.f50 1 0 ⟨[(0, .one (.c (.ptr 0 0))), (1, .one (.c (.d (.int .i64 n_))))], [], [(0, [.d (.int .i64 w_0), .d (.int .i64 w_1), .d (.int .i64 w_2), .d (.int .i64 w_3), .d (.int .i64 w_4)])], 1⟩ _
  obtain ⟨r217_0, cr217_0, h⟩ := bindS h
  have h := Option.some.inj h
  subst h
  exact At.fin hm ht ⟨[(2, .call [0] [] (f73_cwnd_Window_gone_out r217_0))], [], [], [], [0]⟩ [FnOK Go.Proofs.Try.prog 73 (f73_cwnd_Window_gone_in n_ w_0 w_1 w_2 w_3 w_4) (f73_cwnd_Window_gone_out r217_0)] (by kernel_rfl) ⟨(f73_cwnd_Window_gone_ok n_ w_0 w_1 w_2 w_3 w_4 r217_0 cr217_0), trivial⟩
/-! brougham/broughamref13.Acked -/
def f52_broughamref13_Acked_in (w_0 : Int) (w_1 : Int) (w_2 : Int) (w_3 : Int) (w_4 : Int) (bytes : Int) (all : List (Int × Int)) : Inn := ⟨[.agg [.d (.int .i64 w_0), .d (.int .i64 w_1), .d (.int .i64 w_2), .d (.int .i64 w_3), .d (.int .i64 w_4)], .c (.d (.int .i64 bytes)), .c (.d (.sl (.pair (.int .i64) (.int .i64)) all))], [], [], 0⟩
def f52_broughamref13_Acked_out (r : Int × Int × Int × Int × Int) : Out := ⟨.one (.agg [.d (.int .i64 r.1), .d (.int .i64 r.2.1), .d (.int .i64 r.2.2.1), .d (.int .i64 r.2.2.2.1), .d (.int .i64 r.2.2.2.2)]), [], [(0, [.d (.int .i64 r.1), .d (.int .i64 r.2.1), .d (.int .i64 r.2.2.1), .d (.int .i64 r.2.2.2.1), .d (.int .i64 r.2.2.2.2)])], 1⟩
def f52_broughamref13_Acked (n : Nat) (w_0 : Int) (w_1 : Int) (w_2 : Int) (w_3 : Int) (w_4 : Int) (bytes : Int) (all : List (Int × Int)) : Option (Int × Int × Int × Int × Int) :=
  (f71_broughamref13_within bytes 0 1024).bind fun r229_0 =>
  (f51_broughamref13_Gone w_0 w_1 w_2 w_3 w_4 r229_0).bind fun r230_0 =>
  if (decide ((r230_0.2.1 : Int) < r230_0.2.2.1)) = true then
    (f71_broughamref13_within (IntKind.wrap .i64 (r230_0.2.1 + r229_0)) 0 (IntKind.wrap .i64 (64 * r230_0.1))).bind fun r232_0 =>
    some (r230_0.1, r232_0, r230_0.2.2.1, r230_0.2.2.2.1, r230_0.2.2.2.2)
  else
    (f70_broughamref13_paths n all).bind fun r234_0 =>
    (f72_broughamref13_total n r234_0).bind fun r234_1 =>
    if (decide ((r234_1 : Int) < r230_0.2.1)) = true then
      (f39_broughamref13_Alpha n all).bind fun r237_0 =>
      if (r230_0.2.1 : Int) ≠ 0 then
      if (r230_0.2.1 : Int) ≠ 0 then
      if (decide (((IntKind.wrap .i64 (Int.tdiv (IntKind.wrap .i64 ((IntKind.wrap .i64 (1024 * r229_0)) * r230_0.1)) r230_0.2.1)) : Int) < (IntKind.wrap .i64 (Int.tdiv (IntKind.wrap .i64 ((IntKind.wrap .i64 (r237_0 * r229_0)) * r230_0.1)) r230_0.2.1)))) = true then
        (f71_broughamref13_within (IntKind.wrap .i64 (r230_0.2.1 + (IntKind.wrap .i64 (Int.tdiv (IntKind.wrap .i64 (r230_0.2.2.2.1 + (IntKind.wrap .i64 (Int.tdiv (IntKind.wrap .i64 ((IntKind.wrap .i64 (1024 * r229_0)) * r230_0.1)) r230_0.2.1)))) 1024)))) 0 (IntKind.wrap .i64 (64 * r230_0.1))).bind fun r241_0 =>
        some (r230_0.1, r241_0, r230_0.2.2.1, (Int.tmod (IntKind.wrap .i64 (r230_0.2.2.2.1 + (IntKind.wrap .i64 (Int.tdiv (IntKind.wrap .i64 ((IntKind.wrap .i64 (1024 * r229_0)) * r230_0.1)) r230_0.2.1)))) 1024), r230_0.2.2.2.2)
      else
        (f71_broughamref13_within (IntKind.wrap .i64 (r230_0.2.1 + (IntKind.wrap .i64 (Int.tdiv (IntKind.wrap .i64 (r230_0.2.2.2.1 + (IntKind.wrap .i64 (Int.tdiv (IntKind.wrap .i64 ((IntKind.wrap .i64 (r237_0 * r229_0)) * r230_0.1)) r230_0.2.1)))) 1024)))) 0 (IntKind.wrap .i64 (64 * r230_0.1))).bind fun r245_0 =>
        some (r230_0.1, r245_0, r230_0.2.2.1, (Int.tmod (IntKind.wrap .i64 (r230_0.2.2.2.1 + (IntKind.wrap .i64 (Int.tdiv (IntKind.wrap .i64 ((IntKind.wrap .i64 (r237_0 * r229_0)) * r230_0.1)) r230_0.2.1)))) 1024), r230_0.2.2.2.2)
      else none
      else none
    else
      (f39_broughamref13_Alpha n all).bind fun r248_0 =>
      if (r234_1 : Int) ≠ 0 then
      if (r230_0.2.1 : Int) ≠ 0 then
      if (decide (((IntKind.wrap .i64 (Int.tdiv (IntKind.wrap .i64 ((IntKind.wrap .i64 (1024 * r229_0)) * r230_0.1)) r230_0.2.1)) : Int) < (IntKind.wrap .i64 (Int.tdiv (IntKind.wrap .i64 ((IntKind.wrap .i64 (r248_0 * r229_0)) * r230_0.1)) r234_1)))) = true then
        (f71_broughamref13_within (IntKind.wrap .i64 (r230_0.2.1 + (IntKind.wrap .i64 (Int.tdiv (IntKind.wrap .i64 (r230_0.2.2.2.1 + (IntKind.wrap .i64 (Int.tdiv (IntKind.wrap .i64 ((IntKind.wrap .i64 (1024 * r229_0)) * r230_0.1)) r230_0.2.1)))) 1024)))) 0 (IntKind.wrap .i64 (64 * r230_0.1))).bind fun r252_0 =>
        some (r230_0.1, r252_0, r230_0.2.2.1, (Int.tmod (IntKind.wrap .i64 (r230_0.2.2.2.1 + (IntKind.wrap .i64 (Int.tdiv (IntKind.wrap .i64 ((IntKind.wrap .i64 (1024 * r229_0)) * r230_0.1)) r230_0.2.1)))) 1024), r230_0.2.2.2.2)
      else
        (f71_broughamref13_within (IntKind.wrap .i64 (r230_0.2.1 + (IntKind.wrap .i64 (Int.tdiv (IntKind.wrap .i64 (r230_0.2.2.2.1 + (IntKind.wrap .i64 (Int.tdiv (IntKind.wrap .i64 ((IntKind.wrap .i64 (r248_0 * r229_0)) * r230_0.1)) r234_1)))) 1024)))) 0 (IntKind.wrap .i64 (64 * r230_0.1))).bind fun r256_0 =>
        some (r230_0.1, r256_0, r230_0.2.2.1, (Int.tmod (IntKind.wrap .i64 (r230_0.2.2.2.1 + (IntKind.wrap .i64 (Int.tdiv (IntKind.wrap .i64 ((IntKind.wrap .i64 (r248_0 * r229_0)) * r230_0.1)) r234_1)))) 1024), r230_0.2.2.2.2)
      else none
      else none
theorem f52_broughamref13_Acked_ok (n : Nat) (w_0 : Int) (w_1 : Int) (w_2 : Int) (w_3 : Int) (w_4 : Int) (bytes : Int) (all : List (Int × Int)) (r : Int × Int × Int × Int × Int) (h : f52_broughamref13_Acked n w_0 w_1 w_2 w_3 w_4 bytes all = some r) : FnOK Go.Proofs.Try.prog 52 (f52_broughamref13_Acked_in w_0 w_1 w_2 w_3 w_4 bytes all) (f52_broughamref13_Acked_out r) := by
  unfold f52_broughamref13_Acked at h
  refine At.fn (r := 0) Go.Proofs.Try.func52 rfl (by kernel_rfl) rfl rfl (by kernel_rfl) ?_
  show At Go.Proofs.Try.prog Go.Proofs.Try.f52 0 0 ⟨[(0, .one (.agg [.d (.int .i64 w_0), .d (.int .i64 w_1), .d (.int .i64 w_2), .d (.int .i64 w_3), .d (.int .i64 w_4)])), (1, .one (.c (.d (.int .i64 bytes)))), (2, .one (.c (.d (.sl (.pair (.int .i64) (.int .i64)) all))))], [], [], 0⟩ _
  refine At.step hm ht ⟨[], [], [], [1, 2, 3, 6], [0, 1]⟩ 1 ⟨[(1, .one (.c (.d (.int .i64 bytes)))), (2, .one (.c (.d (.sl (.pair (.int .i64) (.int .i64)) all)))), (3, .one (.c (.ptr 0 0))), (6, .one (.c (.ptr 1 0)))], [], [(0, [.d (.int .i64 w_0), .d (.int .i64 w_1), .d (.int .i64 w_2), .d (.int .i64 w_3), .d (.int .i64 w_4)]), (1, [.d (.int .i64 0), .d (.int .i64 0), .d (.int .i64 0), .d (.int .i64 0), .d (.int .i64 0)])], 2⟩ [] (by kernel_rfl) trivial ?_
  obtain ⟨r229_0, cr229_0, h⟩ := bindS h
  refine At.step hm ht ⟨[(1, .call [] [] (f71_broughamref13_within_out r229_0))], [], [], [2, 3, 6, 7], [0, 1]⟩ 2 ⟨[(2, .one (.c (.d (.sl (.pair (.int .i64) (.int .i64)) all)))), (3, .one (.c (.ptr 0 0))), (6, .one (.c (.ptr 1 0))), (7, .one (.c (.d (.int .i64 r229_0))))], [], [(0, [.d (.int .i64 w_0), .d (.int .i64 w_1), .d (.int .i64 w_2), .d (.int .i64 w_3), .d (.int .i64 w_4)]), (1, [.d (.int .i64 0), .d (.int .i64 0), .d (.int .i64 0), .d (.int .i64 0), .d (.int .i64 0)])], 2⟩ [FnOK Go.Proofs.Try.prog 71 (f71_broughamref13_within_in bytes 0 1024) (f71_broughamref13_within_out r229_0)] (by kernel_rfl) ⟨(f71_broughamref13_within_ok bytes 0 1024 r229_0 cr229_0), trivial⟩ ?_
  obtain ⟨r230_0, cr230_0, h⟩ := bindS h
  refine At.step hm ht ⟨[(2, .call [] [] (f51_broughamref13_Gone_out r230_0))], [], [], [2, 3, 6, 7], [0, 1]⟩ 3 ⟨[(2, .one (.c (.d (.sl (.pair (.int .i64) (.int .i64)) all)))), (3, .one (.c (.ptr 0 0))), (6, .one (.c (.ptr 1 0))), (7, .one (.c (.d (.int .i64 r229_0))))], [], [(0, [.d (.int .i64 r230_0.1), .d (.int .i64 r230_0.2.1), .d (.int .i64 r230_0.2.2.1), .d (.int .i64 r230_0.2.2.2.1), .d (.int .i64 r230_0.2.2.2.2)]), (1, [.d (.int .i64 0), .d (.int .i64 0), .d (.int .i64 0), .d (.int .i64 0), .d (.int .i64 0)])], 2⟩ [FnOK Go.Proofs.Try.prog 51 (f51_broughamref13_Gone_in w_0 w_1 w_2 w_3 w_4 r229_0) (f51_broughamref13_Gone_out r230_0), 0 + 5 ≤ 5] (by kernel_rfl) ⟨(f51_broughamref13_Gone_ok w_0 w_1 w_2 w_3 w_4 r229_0 r230_0 cr230_0), (by decide), trivial⟩ ?_
  rcases iteS h with ⟨b231_e0, h⟩ | ⟨b231_e0, h⟩
  · refine At.step hm ht ⟨[], [true], [], [3, 6, 7], [0, 1]⟩ 4 ⟨[(3, .one (.c (.ptr 0 0))), (6, .one (.c (.ptr 1 0))), (7, .one (.c (.d (.int .i64 r229_0))))], [], [(0, [.d (.int .i64 r230_0.1), .d (.int .i64 r230_0.2.1), .d (.int .i64 r230_0.2.2.1), .d (.int .i64 r230_0.2.2.2.1), .d (.int .i64 r230_0.2.2.2.2)]), (1, [.d (.int .i64 0), .d (.int .i64 0), .d (.int .i64 0), .d (.int .i64 0), .d (.int .i64 0)])], 2⟩ [(decide ((r230_0.2.1 : Int) < r230_0.2.2.1)) = true] (by kernel_rfl) ⟨b231_e0, trivial⟩ ?_
    obtain ⟨r232_0, cr232_0, h⟩ := bindS h
    refine At.step hm ht ⟨[(7, .call [] [] (f71_broughamref13_within_out r232_0))], [], [], [3, 6], [0, 1]⟩ 5 ⟨[(3, .one (.c (.ptr 0 0))), (6, .one (.c (.ptr 1 0)))], [], [(0, [.d (.int .i64 r230_0.1), .d (.int .i64 r232_0), .d (.int .i64 r230_0.2.2.1), .d (.int .i64 r230_0.2.2.2.1), .d (.int .i64 r230_0.2.2.2.2)]), (1, [.d (.int .i64 0), .d (.int .i64 0), .d (.int .i64 0), .d (.int .i64 0), .d (.int .i64 0)])], 2⟩ [FnOK Go.Proofs.Try.prog 71 (f71_broughamref13_within_in (IntKind.wrap .i64 (r230_0.2.1 + r229_0)) 0 (IntKind.wrap .i64 (64 * r230_0.1))) (f71_broughamref13_within_out r232_0), 1 + 1 ≤ 5] (by kernel_rfl) ⟨(f71_broughamref13_within_ok (IntKind.wrap .i64 (r230_0.2.1 + r229_0)) 0 (IntKind.wrap .i64 (64 * r230_0.1)) r232_0 cr232_0), (by decide), trivial⟩ ?_
    have h := Option.some.inj h
    subst h
    exact At.fin hm ht ⟨[], [], [], [6], [1]⟩ [0 + 5 ≤ 5] (by kernel_rfl) ⟨(by decide), trivial⟩
  · refine At.step hm ht ⟨[], [false], [], [2, 3, 6, 7], [0, 1]⟩ 6 ⟨[(2, .one (.c (.d (.sl (.pair (.int .i64) (.int .i64)) all)))), (3, .one (.c (.ptr 0 0))), (6, .one (.c (.ptr 1 0))), (7, .one (.c (.d (.int .i64 r229_0))))], [], [(0, [.d (.int .i64 r230_0.1), .d (.int .i64 r230_0.2.1), .d (.int .i64 r230_0.2.2.1), .d (.int .i64 r230_0.2.2.2.1), .d (.int .i64 r230_0.2.2.2.2)]), (1, [.d (.int .i64 0), .d (.int .i64 0), .d (.int .i64 0), .d (.int .i64 0), .d (.int .i64 0)])], 2⟩ [(decide ((r230_0.2.1 : Int) < r230_0.2.2.1)) = false] (by kernel_rfl) ⟨b231_e0, trivial⟩ ?_
    obtain ⟨r234_0, cr234_0, h⟩ := bindS h
    obtain ⟨r234_1, cr234_1, h⟩ := bindS h
    refine At.step hm ht ⟨[(1, .call [] [] (f70_broughamref13_paths_out r234_0)), (2, .call [] [] (f72_broughamref13_total_out r234_1))], [], [], [2, 3, 6, 7, 8], [0, 1]⟩ 7 ⟨[(2, .one (.c (.d (.sl (.pair (.int .i64) (.int .i64)) all)))), (3, .one (.c (.ptr 0 0))), (6, .one (.c (.ptr 1 0))), (7, .one (.c (.d (.int .i64 r229_0)))), (8, .one (.c (.d (.int .i64 r234_1))))], [], [(0, [.d (.int .i64 r230_0.1), .d (.int .i64 r230_0.2.1), .d (.int .i64 r230_0.2.2.1), .d (.int .i64 r230_0.2.2.2.1), .d (.int .i64 r230_0.2.2.2.2)]), (1, [.d (.int .i64 0), .d (.int .i64 0), .d (.int .i64 0), .d (.int .i64 0), .d (.int .i64 0)])], 2⟩ [FnOK Go.Proofs.Try.prog 70 (f70_broughamref13_paths_in all) (f70_broughamref13_paths_out r234_0), FnOK Go.Proofs.Try.prog 72 (f72_broughamref13_total_in r234_0) (f72_broughamref13_total_out r234_1)] (by kernel_rfl) ⟨(f70_broughamref13_paths_ok n all r234_0 cr234_0), (f72_broughamref13_total_ok n r234_0 r234_1 cr234_1), trivial⟩ ?_
    rcases iteS h with ⟨b235_e0, h⟩ | ⟨b235_e0, h⟩
    · refine At.step hm ht ⟨[], [true], [], [2, 3, 6, 7], [0, 1]⟩ 8 ⟨[(2, .one (.c (.d (.sl (.pair (.int .i64) (.int .i64)) all)))), (3, .one (.c (.ptr 0 0))), (6, .one (.c (.ptr 1 0))), (7, .one (.c (.d (.int .i64 r229_0))))], [], [(0, [.d (.int .i64 r230_0.1), .d (.int .i64 r230_0.2.1), .d (.int .i64 r230_0.2.2.1), .d (.int .i64 r230_0.2.2.2.1), .d (.int .i64 r230_0.2.2.2.2)]), (1, [.d (.int .i64 0), .d (.int .i64 0), .d (.int .i64 0), .d (.int .i64 0), .d (.int .i64 0)])], 2⟩ [(decide ((r234_1 : Int) < r230_0.2.1)) = true] (by kernel_rfl) ⟨b235_e0, trivial⟩ ?_
      refine At.step hm ht ⟨[], [], [], [2, 3, 6, 7, 8], [0, 1]⟩ 9 ⟨[(2, .one (.c (.d (.sl (.pair (.int .i64) (.int .i64)) all)))), (3, .one (.c (.ptr 0 0))), (6, .one (.c (.ptr 1 0))), (7, .one (.c (.d (.int .i64 r229_0)))), (8, .one (.c (.d (.int .i64 r230_0.2.1))))], [], [(0, [.d (.int .i64 r230_0.1), .d (.int .i64 r230_0.2.1), .d (.int .i64 r230_0.2.2.1), .d (.int .i64 r230_0.2.2.2.1), .d (.int .i64 r230_0.2.2.2.2)]), (1, [.d (.int .i64 0), .d (.int .i64 0), .d (.int .i64 0), .d (.int .i64 0), .d (.int .i64 0)])], 2⟩ [] (by kernel_rfl) trivial ?_
      obtain ⟨r237_0, cr237_0, h⟩ := bindS h
      obtain ⟨g237_1, h⟩ := ifS h
      obtain ⟨g237_2, h⟩ := ifS h
      refine At.step hm ht ⟨[(1, .call [] [] (f39_broughamref13_Alpha_out r237_0))], [], [], [3, 6, 9, 10], [0, 1]⟩ 10 ⟨[(3, .one (.c (.ptr 0 0))), (6, .one (.c (.ptr 1 0))), (9, .one (.c (.d (.int .i64 (IntKind.wrap .i64 (Int.tdiv (IntKind.wrap .i64 ((IntKind.wrap .i64 (r237_0 * r229_0)) * r230_0.1)) r230_0.2.1)))))), (10, .one (.c (.d (.int .i64 (IntKind.wrap .i64 (Int.tdiv (IntKind.wrap .i64 ((IntKind.wrap .i64 (1024 * r229_0)) * r230_0.1)) r230_0.2.1))))))], [], [(0, [.d (.int .i64 r230_0.1), .d (.int .i64 r230_0.2.1), .d (.int .i64 r230_0.2.2.1), .d (.int .i64 r230_0.2.2.2.1), .d (.int .i64 r230_0.2.2.2.2)]), (1, [.d (.int .i64 0), .d (.int .i64 0), .d (.int .i64 0), .d (.int .i64 0), .d (.int .i64 0)])], 2⟩ [FnOK Go.Proofs.Try.prog 39 (f39_broughamref13_Alpha_in all) (f39_broughamref13_Alpha_out r237_0), (r230_0.2.1 : Int) ≠ 0, (r230_0.2.1 : Int) ≠ 0] (by kernel_rfl) ⟨(f39_broughamref13_Alpha_ok n all r237_0 cr237_0), g237_1, g237_2, trivial⟩ ?_
      rcases iteS h with ⟨b238_e0, h⟩ | ⟨b238_e0, h⟩
      · refine At.step hm ht ⟨[], [true], [], [3, 6, 10], [0, 1]⟩ 11 ⟨[(3, .one (.c (.ptr 0 0))), (6, .one (.c (.ptr 1 0))), (10, .one (.c (.d (.int .i64 (IntKind.wrap .i64 (Int.tdiv (IntKind.wrap .i64 ((IntKind.wrap .i64 (1024 * r229_0)) * r230_0.1)) r230_0.2.1))))))], [], [(0, [.d (.int .i64 r230_0.1), .d (.int .i64 r230_0.2.1), .d (.int .i64 r230_0.2.2.1), .d (.int .i64 r230_0.2.2.2.1), .d (.int .i64 r230_0.2.2.2.2)]), (1, [.d (.int .i64 0), .d (.int .i64 0), .d (.int .i64 0), .d (.int .i64 0), .d (.int .i64 0)])], 2⟩ [(decide (((IntKind.wrap .i64 (Int.tdiv (IntKind.wrap .i64 ((IntKind.wrap .i64 (1024 * r229_0)) * r230_0.1)) r230_0.2.1)) : Int) < (IntKind.wrap .i64 (Int.tdiv (IntKind.wrap .i64 ((IntKind.wrap .i64 (r237_0 * r229_0)) * r230_0.1)) r230_0.2.1)))) = true] (by kernel_rfl) ⟨b238_e0, trivial⟩ ?_
        refine At.step hm ht ⟨[], [], [], [3, 6, 9], [0, 1]⟩ 12 ⟨[(3, .one (.c (.ptr 0 0))), (6, .one (.c (.ptr 1 0))), (9, .one (.c (.d (.int .i64 (IntKind.wrap .i64 (Int.tdiv (IntKind.wrap .i64 ((IntKind.wrap .i64 (1024 * r229_0)) * r230_0.1)) r230_0.2.1))))))], [], [(0, [.d (.int .i64 r230_0.1), .d (.int .i64 r230_0.2.1), .d (.int .i64 r230_0.2.2.1), .d (.int .i64 r230_0.2.2.2.1), .d (.int .i64 r230_0.2.2.2.2)]), (1, [.d (.int .i64 0), .d (.int .i64 0), .d (.int .i64 0), .d (.int .i64 0), .d (.int .i64 0)])], 2⟩ [] (by kernel_rfl) trivial ?_
        refine At.step hm ht ⟨[], [], [], [3, 6], [0, 1]⟩ 13 ⟨[(3, .one (.c (.ptr 0 0))), (6, .one (.c (.ptr 1 0)))], [], [(0, [.d (.int .i64 r230_0.1), .d (.int .i64 r230_0.2.1), .d (.int .i64 r230_0.2.2.1), .d (.int .i64 (IntKind.wrap .i64 (r230_0.2.2.2.1 + (IntKind.wrap .i64 (Int.tdiv (IntKind.wrap .i64 ((IntKind.wrap .i64 (1024 * r229_0)) * r230_0.1)) r230_0.2.1))))), .d (.int .i64 r230_0.2.2.2.2)]), (1, [.d (.int .i64 0), .d (.int .i64 0), .d (.int .i64 0), .d (.int .i64 0), .d (.int .i64 0)])], 2⟩ [3 + 1 ≤ 5] (by kernel_rfl) ⟨(by decide), trivial⟩ ?_
        obtain ⟨r241_0, cr241_0, h⟩ := bindS h
        refine At.step hm ht ⟨[(9, .call [] [] (f71_broughamref13_within_out r241_0))], [], [], [3, 6], [0, 1]⟩ 14 ⟨[(3, .one (.c (.ptr 0 0))), (6, .one (.c (.ptr 1 0)))], [], [(0, [.d (.int .i64 r230_0.1), .d (.int .i64 r241_0), .d (.int .i64 r230_0.2.2.1), .d (.int .i64 (IntKind.wrap .i64 (r230_0.2.2.2.1 + (IntKind.wrap .i64 (Int.tdiv (IntKind.wrap .i64 ((IntKind.wrap .i64 (1024 * r229_0)) * r230_0.1)) r230_0.2.1))))), .d (.int .i64 r230_0.2.2.2.2)]), (1, [.d (.int .i64 0), .d (.int .i64 0), .d (.int .i64 0), .d (.int .i64 0), .d (.int .i64 0)])], 2⟩ [(1024 : Int) ≠ 0, FnOK Go.Proofs.Try.prog 71 (f71_broughamref13_within_in (IntKind.wrap .i64 (r230_0.2.1 + (IntKind.wrap .i64 (Int.tdiv (IntKind.wrap .i64 (r230_0.2.2.2.1 + (IntKind.wrap .i64 (Int.tdiv (IntKind.wrap .i64 ((IntKind.wrap .i64 (1024 * r229_0)) * r230_0.1)) r230_0.2.1)))) 1024)))) 0 (IntKind.wrap .i64 (64 * r230_0.1))) (f71_broughamref13_within_out r241_0), 1 + 1 ≤ 5] (by kernel_rfl) ⟨(by decide), (f71_broughamref13_within_ok (IntKind.wrap .i64 (r230_0.2.1 + (IntKind.wrap .i64 (Int.tdiv (IntKind.wrap .i64 (r230_0.2.2.2.1 + (IntKind.wrap .i64 (Int.tdiv (IntKind.wrap .i64 ((IntKind.wrap .i64 (1024 * r229_0)) * r230_0.1)) r230_0.2.1)))) 1024)))) 0 (IntKind.wrap .i64 (64 * r230_0.1)) r241_0 cr241_0), (by decide), trivial⟩ ?_
        refine At.step hm ht ⟨[], [], [], [3, 6], [0, 1]⟩ 15 ⟨[(3, .one (.c (.ptr 0 0))), (6, .one (.c (.ptr 1 0)))], [], [(0, [.d (.int .i64 r230_0.1), .d (.int .i64 r241_0), .d (.int .i64 r230_0.2.2.1), .d (.int .i64 (Int.tmod (IntKind.wrap .i64 (r230_0.2.2.2.1 + (IntKind.wrap .i64 (Int.tdiv (IntKind.wrap .i64 ((IntKind.wrap .i64 (1024 * r229_0)) * r230_0.1)) r230_0.2.1)))) 1024)), .d (.int .i64 r230_0.2.2.2.2)]), (1, [.d (.int .i64 0), .d (.int .i64 0), .d (.int .i64 0), .d (.int .i64 0), .d (.int .i64 0)])], 2⟩ [(1024 : Int) ≠ 0, 3 + 1 ≤ 5] (by kernel_rfl) ⟨(by decide), (by decide), trivial⟩ ?_
        have h := Option.some.inj h
        subst h
        exact At.fin hm ht ⟨[], [], [], [6], [1]⟩ [0 + 5 ≤ 5] (by kernel_rfl) ⟨(by decide), trivial⟩
      · refine At.step hm ht ⟨[], [false], [], [3, 6, 9], [0, 1]⟩ 12 ⟨[(3, .one (.c (.ptr 0 0))), (6, .one (.c (.ptr 1 0))), (9, .one (.c (.d (.int .i64 (IntKind.wrap .i64 (Int.tdiv (IntKind.wrap .i64 ((IntKind.wrap .i64 (r237_0 * r229_0)) * r230_0.1)) r230_0.2.1))))))], [], [(0, [.d (.int .i64 r230_0.1), .d (.int .i64 r230_0.2.1), .d (.int .i64 r230_0.2.2.1), .d (.int .i64 r230_0.2.2.2.1), .d (.int .i64 r230_0.2.2.2.2)]), (1, [.d (.int .i64 0), .d (.int .i64 0), .d (.int .i64 0), .d (.int .i64 0), .d (.int .i64 0)])], 2⟩ [(decide (((IntKind.wrap .i64 (Int.tdiv (IntKind.wrap .i64 ((IntKind.wrap .i64 (1024 * r229_0)) * r230_0.1)) r230_0.2.1)) : Int) < (IntKind.wrap .i64 (Int.tdiv (IntKind.wrap .i64 ((IntKind.wrap .i64 (r237_0 * r229_0)) * r230_0.1)) r230_0.2.1)))) = false] (by kernel_rfl) ⟨b238_e0, trivial⟩ ?_
        refine At.step hm ht ⟨[], [], [], [3, 6], [0, 1]⟩ 13 ⟨[(3, .one (.c (.ptr 0 0))), (6, .one (.c (.ptr 1 0)))], [], [(0, [.d (.int .i64 r230_0.1), .d (.int .i64 r230_0.2.1), .d (.int .i64 r230_0.2.2.1), .d (.int .i64 (IntKind.wrap .i64 (r230_0.2.2.2.1 + (IntKind.wrap .i64 (Int.tdiv (IntKind.wrap .i64 ((IntKind.wrap .i64 (r237_0 * r229_0)) * r230_0.1)) r230_0.2.1))))), .d (.int .i64 r230_0.2.2.2.2)]), (1, [.d (.int .i64 0), .d (.int .i64 0), .d (.int .i64 0), .d (.int .i64 0), .d (.int .i64 0)])], 2⟩ [3 + 1 ≤ 5] (by kernel_rfl) ⟨(by decide), trivial⟩ ?_
        obtain ⟨r245_0, cr245_0, h⟩ := bindS h
        refine At.step hm ht ⟨[(9, .call [] [] (f71_broughamref13_within_out r245_0))], [], [], [3, 6], [0, 1]⟩ 14 ⟨[(3, .one (.c (.ptr 0 0))), (6, .one (.c (.ptr 1 0)))], [], [(0, [.d (.int .i64 r230_0.1), .d (.int .i64 r245_0), .d (.int .i64 r230_0.2.2.1), .d (.int .i64 (IntKind.wrap .i64 (r230_0.2.2.2.1 + (IntKind.wrap .i64 (Int.tdiv (IntKind.wrap .i64 ((IntKind.wrap .i64 (r237_0 * r229_0)) * r230_0.1)) r230_0.2.1))))), .d (.int .i64 r230_0.2.2.2.2)]), (1, [.d (.int .i64 0), .d (.int .i64 0), .d (.int .i64 0), .d (.int .i64 0), .d (.int .i64 0)])], 2⟩ [(1024 : Int) ≠ 0, FnOK Go.Proofs.Try.prog 71 (f71_broughamref13_within_in (IntKind.wrap .i64 (r230_0.2.1 + (IntKind.wrap .i64 (Int.tdiv (IntKind.wrap .i64 (r230_0.2.2.2.1 + (IntKind.wrap .i64 (Int.tdiv (IntKind.wrap .i64 ((IntKind.wrap .i64 (r237_0 * r229_0)) * r230_0.1)) r230_0.2.1)))) 1024)))) 0 (IntKind.wrap .i64 (64 * r230_0.1))) (f71_broughamref13_within_out r245_0), 1 + 1 ≤ 5] (by kernel_rfl) ⟨(by decide), (f71_broughamref13_within_ok (IntKind.wrap .i64 (r230_0.2.1 + (IntKind.wrap .i64 (Int.tdiv (IntKind.wrap .i64 (r230_0.2.2.2.1 + (IntKind.wrap .i64 (Int.tdiv (IntKind.wrap .i64 ((IntKind.wrap .i64 (r237_0 * r229_0)) * r230_0.1)) r230_0.2.1)))) 1024)))) 0 (IntKind.wrap .i64 (64 * r230_0.1)) r245_0 cr245_0), (by decide), trivial⟩ ?_
        refine At.step hm ht ⟨[], [], [], [3, 6], [0, 1]⟩ 15 ⟨[(3, .one (.c (.ptr 0 0))), (6, .one (.c (.ptr 1 0)))], [], [(0, [.d (.int .i64 r230_0.1), .d (.int .i64 r245_0), .d (.int .i64 r230_0.2.2.1), .d (.int .i64 (Int.tmod (IntKind.wrap .i64 (r230_0.2.2.2.1 + (IntKind.wrap .i64 (Int.tdiv (IntKind.wrap .i64 ((IntKind.wrap .i64 (r237_0 * r229_0)) * r230_0.1)) r230_0.2.1)))) 1024)), .d (.int .i64 r230_0.2.2.2.2)]), (1, [.d (.int .i64 0), .d (.int .i64 0), .d (.int .i64 0), .d (.int .i64 0), .d (.int .i64 0)])], 2⟩ [(1024 : Int) ≠ 0, 3 + 1 ≤ 5] (by kernel_rfl) ⟨(by decide), (by decide), trivial⟩ ?_
        have h := Option.some.inj h
        subst h
        exact At.fin hm ht ⟨[], [], [], [6], [1]⟩ [0 + 5 ≤ 5] (by kernel_rfl) ⟨(by decide), trivial⟩
    · refine At.step hm ht ⟨[], [false], [], [2, 3, 6, 7, 8], [0, 1]⟩ 9 ⟨[(2, .one (.c (.d (.sl (.pair (.int .i64) (.int .i64)) all)))), (3, .one (.c (.ptr 0 0))), (6, .one (.c (.ptr 1 0))), (7, .one (.c (.d (.int .i64 r229_0)))), (8, .one (.c (.d (.int .i64 r234_1))))], [], [(0, [.d (.int .i64 r230_0.1), .d (.int .i64 r230_0.2.1), .d (.int .i64 r230_0.2.2.1), .d (.int .i64 r230_0.2.2.2.1), .d (.int .i64 r230_0.2.2.2.2)]), (1, [.d (.int .i64 0), .d (.int .i64 0), .d (.int .i64 0), .d (.int .i64 0), .d (.int .i64 0)])], 2⟩ [(decide ((r234_1 : Int) < r230_0.2.1)) = false] (by kernel_rfl) ⟨b235_e0, trivial⟩ ?_
      obtain ⟨r248_0, cr248_0, h⟩ := bindS h
      obtain ⟨g248_1, h⟩ := ifS h
      obtain ⟨g248_2, h⟩ := ifS h
      refine At.step hm ht ⟨[(1, .call [] [] (f39_broughamref13_Alpha_out r248_0))], [], [], [3, 6, 9, 10], [0, 1]⟩ 10 ⟨[(3, .one (.c (.ptr 0 0))), (6, .one (.c (.ptr 1 0))), (9, .one (.c (.d (.int .i64 (IntKind.wrap .i64 (Int.tdiv (IntKind.wrap .i64 ((IntKind.wrap .i64 (r248_0 * r229_0)) * r230_0.1)) r234_1)))))), (10, .one (.c (.d (.int .i64 (IntKind.wrap .i64 (Int.tdiv (IntKind.wrap .i64 ((IntKind.wrap .i64 (1024 * r229_0)) * r230_0.1)) r230_0.2.1))))))], [], [(0, [.d (.int .i64 r230_0.1), .d (.int .i64 r230_0.2.1), .d (.int .i64 r230_0.2.2.1), .d (.int .i64 r230_0.2.2.2.1), .d (.int .i64 r230_0.2.2.2.2)]), (1, [.d (.int .i64 0), .d (.int .i64 0), .d (.int .i64 0), .d (.int .i64 0), .d (.int .i64 0)])], 2⟩ [FnOK Go.Proofs.Try.prog 39 (f39_broughamref13_Alpha_in all) (f39_broughamref13_Alpha_out r248_0), (r234_1 : Int) ≠ 0, (r230_0.2.1 : Int) ≠ 0] (by kernel_rfl) ⟨(f39_broughamref13_Alpha_ok n all r248_0 cr248_0), g248_1, g248_2, trivial⟩ ?_
      rcases iteS h with ⟨b249_e0, h⟩ | ⟨b249_e0, h⟩
      · refine At.step hm ht ⟨[], [true], [], [3, 6, 10], [0, 1]⟩ 11 ⟨[(3, .one (.c (.ptr 0 0))), (6, .one (.c (.ptr 1 0))), (10, .one (.c (.d (.int .i64 (IntKind.wrap .i64 (Int.tdiv (IntKind.wrap .i64 ((IntKind.wrap .i64 (1024 * r229_0)) * r230_0.1)) r230_0.2.1))))))], [], [(0, [.d (.int .i64 r230_0.1), .d (.int .i64 r230_0.2.1), .d (.int .i64 r230_0.2.2.1), .d (.int .i64 r230_0.2.2.2.1), .d (.int .i64 r230_0.2.2.2.2)]), (1, [.d (.int .i64 0), .d (.int .i64 0), .d (.int .i64 0), .d (.int .i64 0), .d (.int .i64 0)])], 2⟩ [(decide (((IntKind.wrap .i64 (Int.tdiv (IntKind.wrap .i64 ((IntKind.wrap .i64 (1024 * r229_0)) * r230_0.1)) r230_0.2.1)) : Int) < (IntKind.wrap .i64 (Int.tdiv (IntKind.wrap .i64 ((IntKind.wrap .i64 (r248_0 * r229_0)) * r230_0.1)) r234_1)))) = true] (by kernel_rfl) ⟨b249_e0, trivial⟩ ?_
        refine At.step hm ht ⟨[], [], [], [3, 6, 9], [0, 1]⟩ 12 ⟨[(3, .one (.c (.ptr 0 0))), (6, .one (.c (.ptr 1 0))), (9, .one (.c (.d (.int .i64 (IntKind.wrap .i64 (Int.tdiv (IntKind.wrap .i64 ((IntKind.wrap .i64 (1024 * r229_0)) * r230_0.1)) r230_0.2.1))))))], [], [(0, [.d (.int .i64 r230_0.1), .d (.int .i64 r230_0.2.1), .d (.int .i64 r230_0.2.2.1), .d (.int .i64 r230_0.2.2.2.1), .d (.int .i64 r230_0.2.2.2.2)]), (1, [.d (.int .i64 0), .d (.int .i64 0), .d (.int .i64 0), .d (.int .i64 0), .d (.int .i64 0)])], 2⟩ [] (by kernel_rfl) trivial ?_
        refine At.step hm ht ⟨[], [], [], [3, 6], [0, 1]⟩ 13 ⟨[(3, .one (.c (.ptr 0 0))), (6, .one (.c (.ptr 1 0)))], [], [(0, [.d (.int .i64 r230_0.1), .d (.int .i64 r230_0.2.1), .d (.int .i64 r230_0.2.2.1), .d (.int .i64 (IntKind.wrap .i64 (r230_0.2.2.2.1 + (IntKind.wrap .i64 (Int.tdiv (IntKind.wrap .i64 ((IntKind.wrap .i64 (1024 * r229_0)) * r230_0.1)) r230_0.2.1))))), .d (.int .i64 r230_0.2.2.2.2)]), (1, [.d (.int .i64 0), .d (.int .i64 0), .d (.int .i64 0), .d (.int .i64 0), .d (.int .i64 0)])], 2⟩ [3 + 1 ≤ 5] (by kernel_rfl) ⟨(by decide), trivial⟩ ?_
        obtain ⟨r252_0, cr252_0, h⟩ := bindS h
        refine At.step hm ht ⟨[(9, .call [] [] (f71_broughamref13_within_out r252_0))], [], [], [3, 6], [0, 1]⟩ 14 ⟨[(3, .one (.c (.ptr 0 0))), (6, .one (.c (.ptr 1 0)))], [], [(0, [.d (.int .i64 r230_0.1), .d (.int .i64 r252_0), .d (.int .i64 r230_0.2.2.1), .d (.int .i64 (IntKind.wrap .i64 (r230_0.2.2.2.1 + (IntKind.wrap .i64 (Int.tdiv (IntKind.wrap .i64 ((IntKind.wrap .i64 (1024 * r229_0)) * r230_0.1)) r230_0.2.1))))), .d (.int .i64 r230_0.2.2.2.2)]), (1, [.d (.int .i64 0), .d (.int .i64 0), .d (.int .i64 0), .d (.int .i64 0), .d (.int .i64 0)])], 2⟩ [(1024 : Int) ≠ 0, FnOK Go.Proofs.Try.prog 71 (f71_broughamref13_within_in (IntKind.wrap .i64 (r230_0.2.1 + (IntKind.wrap .i64 (Int.tdiv (IntKind.wrap .i64 (r230_0.2.2.2.1 + (IntKind.wrap .i64 (Int.tdiv (IntKind.wrap .i64 ((IntKind.wrap .i64 (1024 * r229_0)) * r230_0.1)) r230_0.2.1)))) 1024)))) 0 (IntKind.wrap .i64 (64 * r230_0.1))) (f71_broughamref13_within_out r252_0), 1 + 1 ≤ 5] (by kernel_rfl) ⟨(by decide), (f71_broughamref13_within_ok (IntKind.wrap .i64 (r230_0.2.1 + (IntKind.wrap .i64 (Int.tdiv (IntKind.wrap .i64 (r230_0.2.2.2.1 + (IntKind.wrap .i64 (Int.tdiv (IntKind.wrap .i64 ((IntKind.wrap .i64 (1024 * r229_0)) * r230_0.1)) r230_0.2.1)))) 1024)))) 0 (IntKind.wrap .i64 (64 * r230_0.1)) r252_0 cr252_0), (by decide), trivial⟩ ?_
        refine At.step hm ht ⟨[], [], [], [3, 6], [0, 1]⟩ 15 ⟨[(3, .one (.c (.ptr 0 0))), (6, .one (.c (.ptr 1 0)))], [], [(0, [.d (.int .i64 r230_0.1), .d (.int .i64 r252_0), .d (.int .i64 r230_0.2.2.1), .d (.int .i64 (Int.tmod (IntKind.wrap .i64 (r230_0.2.2.2.1 + (IntKind.wrap .i64 (Int.tdiv (IntKind.wrap .i64 ((IntKind.wrap .i64 (1024 * r229_0)) * r230_0.1)) r230_0.2.1)))) 1024)), .d (.int .i64 r230_0.2.2.2.2)]), (1, [.d (.int .i64 0), .d (.int .i64 0), .d (.int .i64 0), .d (.int .i64 0), .d (.int .i64 0)])], 2⟩ [(1024 : Int) ≠ 0, 3 + 1 ≤ 5] (by kernel_rfl) ⟨(by decide), (by decide), trivial⟩ ?_
        have h := Option.some.inj h
        subst h
        exact At.fin hm ht ⟨[], [], [], [6], [1]⟩ [0 + 5 ≤ 5] (by kernel_rfl) ⟨(by decide), trivial⟩
      · refine At.step hm ht ⟨[], [false], [], [3, 6, 9], [0, 1]⟩ 12 ⟨[(3, .one (.c (.ptr 0 0))), (6, .one (.c (.ptr 1 0))), (9, .one (.c (.d (.int .i64 (IntKind.wrap .i64 (Int.tdiv (IntKind.wrap .i64 ((IntKind.wrap .i64 (r248_0 * r229_0)) * r230_0.1)) r234_1))))))], [], [(0, [.d (.int .i64 r230_0.1), .d (.int .i64 r230_0.2.1), .d (.int .i64 r230_0.2.2.1), .d (.int .i64 r230_0.2.2.2.1), .d (.int .i64 r230_0.2.2.2.2)]), (1, [.d (.int .i64 0), .d (.int .i64 0), .d (.int .i64 0), .d (.int .i64 0), .d (.int .i64 0)])], 2⟩ [(decide (((IntKind.wrap .i64 (Int.tdiv (IntKind.wrap .i64 ((IntKind.wrap .i64 (1024 * r229_0)) * r230_0.1)) r230_0.2.1)) : Int) < (IntKind.wrap .i64 (Int.tdiv (IntKind.wrap .i64 ((IntKind.wrap .i64 (r248_0 * r229_0)) * r230_0.1)) r234_1)))) = false] (by kernel_rfl) ⟨b249_e0, trivial⟩ ?_
        refine At.step hm ht ⟨[], [], [], [3, 6], [0, 1]⟩ 13 ⟨[(3, .one (.c (.ptr 0 0))), (6, .one (.c (.ptr 1 0)))], [], [(0, [.d (.int .i64 r230_0.1), .d (.int .i64 r230_0.2.1), .d (.int .i64 r230_0.2.2.1), .d (.int .i64 (IntKind.wrap .i64 (r230_0.2.2.2.1 + (IntKind.wrap .i64 (Int.tdiv (IntKind.wrap .i64 ((IntKind.wrap .i64 (r248_0 * r229_0)) * r230_0.1)) r234_1))))), .d (.int .i64 r230_0.2.2.2.2)]), (1, [.d (.int .i64 0), .d (.int .i64 0), .d (.int .i64 0), .d (.int .i64 0), .d (.int .i64 0)])], 2⟩ [3 + 1 ≤ 5] (by kernel_rfl) ⟨(by decide), trivial⟩ ?_
        obtain ⟨r256_0, cr256_0, h⟩ := bindS h
        refine At.step hm ht ⟨[(9, .call [] [] (f71_broughamref13_within_out r256_0))], [], [], [3, 6], [0, 1]⟩ 14 ⟨[(3, .one (.c (.ptr 0 0))), (6, .one (.c (.ptr 1 0)))], [], [(0, [.d (.int .i64 r230_0.1), .d (.int .i64 r256_0), .d (.int .i64 r230_0.2.2.1), .d (.int .i64 (IntKind.wrap .i64 (r230_0.2.2.2.1 + (IntKind.wrap .i64 (Int.tdiv (IntKind.wrap .i64 ((IntKind.wrap .i64 (r248_0 * r229_0)) * r230_0.1)) r234_1))))), .d (.int .i64 r230_0.2.2.2.2)]), (1, [.d (.int .i64 0), .d (.int .i64 0), .d (.int .i64 0), .d (.int .i64 0), .d (.int .i64 0)])], 2⟩ [(1024 : Int) ≠ 0, FnOK Go.Proofs.Try.prog 71 (f71_broughamref13_within_in (IntKind.wrap .i64 (r230_0.2.1 + (IntKind.wrap .i64 (Int.tdiv (IntKind.wrap .i64 (r230_0.2.2.2.1 + (IntKind.wrap .i64 (Int.tdiv (IntKind.wrap .i64 ((IntKind.wrap .i64 (r248_0 * r229_0)) * r230_0.1)) r234_1)))) 1024)))) 0 (IntKind.wrap .i64 (64 * r230_0.1))) (f71_broughamref13_within_out r256_0), 1 + 1 ≤ 5] (by kernel_rfl) ⟨(by decide), (f71_broughamref13_within_ok (IntKind.wrap .i64 (r230_0.2.1 + (IntKind.wrap .i64 (Int.tdiv (IntKind.wrap .i64 (r230_0.2.2.2.1 + (IntKind.wrap .i64 (Int.tdiv (IntKind.wrap .i64 ((IntKind.wrap .i64 (r248_0 * r229_0)) * r230_0.1)) r234_1)))) 1024)))) 0 (IntKind.wrap .i64 (64 * r230_0.1)) r256_0 cr256_0), (by decide), trivial⟩ ?_
        refine At.step hm ht ⟨[], [], [], [3, 6], [0, 1]⟩ 15 ⟨[(3, .one (.c (.ptr 0 0))), (6, .one (.c (.ptr 1 0)))], [], [(0, [.d (.int .i64 r230_0.1), .d (.int .i64 r256_0), .d (.int .i64 r230_0.2.2.1), .d (.int .i64 (Int.tmod (IntKind.wrap .i64 (r230_0.2.2.2.1 + (IntKind.wrap .i64 (Int.tdiv (IntKind.wrap .i64 ((IntKind.wrap .i64 (r248_0 * r229_0)) * r230_0.1)) r234_1)))) 1024)), .d (.int .i64 r230_0.2.2.2.2)]), (1, [.d (.int .i64 0), .d (.int .i64 0), .d (.int .i64 0), .d (.int .i64 0), .d (.int .i64 0)])], 2⟩ [(1024 : Int) ≠ 0, 3 + 1 ≤ 5] (by kernel_rfl) ⟨(by decide), (by decide), trivial⟩ ?_
        have h := Option.some.inj h
        subst h
        exact At.fin hm ht ⟨[], [], [], [6], [1]⟩ [0 + 5 ≤ 5] (by kernel_rfl) ⟨(by decide), trivial⟩
end Go.Proofs.YtjimlfjhhmdcdaaF13
