/- What the functions compute, and that they do: printed by a program of this session (zgen.py), proved by Zed. -/
import Derived.Test.YtjmebloeodcoaaaProg
import Derived.Test.YtjmebloeodcoaaaZedY
namespace Go.Proofs.YtjmebloeodcoaaaF14
open Go Zed
set_option maxRecDepth 100000
set_option linter.unusedVariables false
def tab : Tab := [(3, ⟨.int .i64, 1, 8, [.int .i64 0], some (.int .i64), none⟩), (22, ⟨.slice 3, 1, 24, [.sl .unit []], some (.slice (.int .i64)), none⟩), (23, ⟨.ptr 77, 1, 8, [.nilP], none, none⟩), (77, ⟨.struct [(0, 3), (1, 3), (2, 3)], 3, 24, [.int .i64 0, .int .i64 0, .int .i64 0], some (.pair (.int .i64) (.pair (.int .i64) (.int .i64))), some [(0, 3), (1, 3), (2, 3)]⟩)]
theorem ht : TabOk Go.Proofs.Try.prog tab := tabOk_of (ts := [3, 22, 23, 77]) (by kernel_rfl)
theorem hm : Go.Proofs.Try.prog.follows .mixedOrders = true := by kernel_rfl
/-! brougham/quar.New -/
def f15_quar_New_in (limit : Int) : Inn := ⟨[.c (.d (.int .i64 limit))], [], [], 0⟩
def f15_quar_New_out (r : Int × Int × Int) : Out := ⟨.one (.c (.ptr 0 0)), [], [(0, [.d (.int .i64 r.1), .d (.int .i64 r.2.1), .d (.int .i64 r.2.2)])], 1⟩
def f15_quar_New (limit : Int) : Option (Int × Int × Int) :=
  some (0, (if 4096 < (if limit < 1 then 1 else limit) then 4096 else (if limit < 1 then 1 else limit)), 0)
theorem f15_quar_New_ok (limit : Int) (r : Int × Int × Int) (h : f15_quar_New limit = some r) : FnOK Go.Proofs.Try.prog 15 (f15_quar_New_in limit) (f15_quar_New_out r) := by
  unfold f15_quar_New at h
  refine At.fn (r := 0) Go.Proofs.Try.func15 rfl (by kernel_rfl) rfl rfl (by kernel_rfl) ?_
  show At Go.Proofs.Try.prog Go.Proofs.Try.f15 0 0 ⟨[(0, .one (.c (.d (.int .i64 limit))))], [], [], 0⟩ _
  refine At.step hm ht ⟨[], [], [], [0], []⟩ 1 ⟨[(0, .one (.c (.d (.int .i64 limit))))], [], [], 0⟩ [] (by kernel_rfl) trivial ?_
  have h := Option.some.inj h
  subst h
  exact At.fin hm ht ⟨[], [], [], [2], [4]⟩ [] (by kernel_rfl) trivial
/-! (*brougham/quar.Score).Add -/
def f16_quar_Score_Add_in (weight : Int) (s_0 : Int) (s_1 : Int) (s_2 : Int) : Inn := ⟨[.c (.ptr 0 0), .c (.d (.int .i64 weight))], [], [(0, [.d (.int .i64 s_0), .d (.int .i64 s_1), .d (.int .i64 s_2)])], 1⟩
def f16_quar_Score_Add_out (r : Int × Int × Int) : Out := ⟨.tup [], [], [(0, [.d (.int .i64 r.1), .d (.int .i64 r.2.1), .d (.int .i64 r.2.2)])], 1⟩
def f16_quar_Score_Add (weight : Int) (s_0 : Int) (s_1 : Int) (s_2 : Int) : Option (Int × Int × Int) :=
  some ((if (IntKind.wrap .i64 (4 * s_1)) < (IntKind.wrap .i64 (s_0 + (if 4096 < (if weight < 0 then 0 else weight) then 4096 else (if weight < 0 then 0 else weight)))) then (IntKind.wrap .i64 (4 * s_1)) else (IntKind.wrap .i64 (s_0 + (if 4096 < (if weight < 0 then 0 else weight) then 4096 else (if weight < 0 then 0 else weight))))), s_1, s_2)
theorem f16_quar_Score_Add_ok (weight : Int) (s_0 : Int) (s_1 : Int) (s_2 : Int) (r : Int × Int × Int) (h : f16_quar_Score_Add weight s_0 s_1 s_2 = some r) : FnOK Go.Proofs.Try.prog 16 (f16_quar_Score_Add_in weight s_0 s_1 s_2) (f16_quar_Score_Add_out r) := by
  unfold f16_quar_Score_Add at h
  refine At.fn (r := 0) Go.Proofs.Try.func16 rfl (by kernel_rfl) rfl rfl (by kernel_rfl) ?_
  show At Go.Proofs.Try.prog Go.Proofs.Try.f16 1 0 ⟨[(0, .one (.c (.ptr 0 0))), (1, .one (.c (.d (.int .i64 weight))))], [], [(0, [.d (.int .i64 s_0), .d (.int .i64 s_1), .d (.int .i64 s_2)])], 1⟩ _
  have h := Option.some.inj h
  subst h
  exact At.fin hm ht ⟨[], [], [], [], [0]⟩ [0 + 1 ≤ 3] (by kernel_rfl) ⟨(by decide), trivial⟩
/-! (*brougham/quar.Score).Points -/
def f17_quar_Score_Points_in (s_0 : Int) (s_1 : Int) (s_2 : Int) : Inn := ⟨[.c (.ptr 0 0)], [], [(0, [.d (.int .i64 s_0), .d (.int .i64 s_1), .d (.int .i64 s_2)])], 1⟩
def f17_quar_Score_Points_out (r : Int × Int × Int × Int) : Out := ⟨.one (.c (.d (.int .i64 r.1))), [], [(0, [.d (.int .i64 r.2.1), .d (.int .i64 r.2.2.1), .d (.int .i64 r.2.2.2)])], 1⟩
def f17_quar_Score_Points (s_0 : Int) (s_1 : Int) (s_2 : Int) : Option (Int × Int × Int × Int) :=
  some (s_0, s_0, s_1, s_2)
theorem f17_quar_Score_Points_ok (s_0 : Int) (s_1 : Int) (s_2 : Int) (r : Int × Int × Int × Int) (h : f17_quar_Score_Points s_0 s_1 s_2 = some r) : FnOK Go.Proofs.Try.prog 17 (f17_quar_Score_Points_in s_0 s_1 s_2) (f17_quar_Score_Points_out r) := by
  unfold f17_quar_Score_Points at h
  refine At.fn (r := 0) Go.Proofs.Try.func17 rfl (by kernel_rfl) rfl rfl (by kernel_rfl) ?_
  show At Go.Proofs.Try.prog Go.Proofs.Try.f17 1 0 ⟨[(0, .one (.c (.ptr 0 0)))], [], [(0, [.d (.int .i64 s_0), .d (.int .i64 s_1), .d (.int .i64 s_2)])], 1⟩ _
  refine At.step hm ht ⟨[], [], [], [0], [0]⟩ 1 ⟨[(0, .one (.c (.ptr 0 0)))], [], [(0, [.d (.int .i64 s_0), .d (.int .i64 s_1), .d (.int .i64 s_2)])], 1⟩ [] (by kernel_rfl) trivial ?_
  have h := Option.some.inj h
  subst h
  exact At.fin hm ht ⟨[], [], [], [2], [0]⟩ [] (by kernel_rfl) trivial
/-! (*brougham/quar.Score).Tick -/
def f18_quar_Score_Tick_in (n_ : Int) (s_0 : Int) (s_1 : Int) (s_2 : Int) : Inn := ⟨[.c (.ptr 0 0), .c (.d (.int .i64 n_))], [], [(0, [.d (.int .i64 s_0), .d (.int .i64 s_1), .d (.int .i64 s_2)])], 1⟩
def f18_quar_Score_Tick_out (r : Int × Int × Int) : Out := ⟨.tup [], [], [(0, [.d (.int .i64 r.1), .d (.int .i64 r.2.1), .d (.int .i64 r.2.2)])], 1⟩
def f18_quar_Score_Tick (n_ : Int) (s_0 : Int) (s_1 : Int) (s_2 : Int) : Option (Int × Int × Int) :=
  some ((if (IntKind.wrap .i64 (s_0 - (IntKind.wrap .i64 (Int.tdiv (IntKind.wrap .i64 (s_2 + (if 4096 < (if n_ < 0 then 0 else n_) then 4096 else (if n_ < 0 then 0 else n_)))) 8)))) < 0 then 0 else (IntKind.wrap .i64 (s_0 - (IntKind.wrap .i64 (Int.tdiv (IntKind.wrap .i64 (s_2 + (if 4096 < (if n_ < 0 then 0 else n_) then 4096 else (if n_ < 0 then 0 else n_)))) 8))))), s_1, (Int.tmod (IntKind.wrap .i64 (s_2 + (if 4096 < (if n_ < 0 then 0 else n_) then 4096 else (if n_ < 0 then 0 else n_)))) 8))
theorem f18_quar_Score_Tick_ok (n_ : Int) (s_0 : Int) (s_1 : Int) (s_2 : Int) (r : Int × Int × Int) (h : f18_quar_Score_Tick n_ s_0 s_1 s_2 = some r) : FnOK Go.Proofs.Try.prog 18 (f18_quar_Score_Tick_in n_ s_0 s_1 s_2) (f18_quar_Score_Tick_out r) := by
  unfold f18_quar_Score_Tick at h
  refine At.fn (r := 0) Go.Proofs.Try.func18 rfl (by kernel_rfl) rfl rfl (by kernel_rfl) ?_
  show At Go.Proofs.Try.prog Go.Proofs.Try.f18 1 0 ⟨[(0, .one (.c (.ptr 0 0))), (1, .one (.c (.d (.int .i64 n_))))], [], [(0, [.d (.int .i64 s_0), .d (.int .i64 s_1), .d (.int .i64 s_2)])], 1⟩ _
  refine At.step hm ht ⟨[], [], [], [0], [0]⟩ 1 ⟨[(0, .one (.c (.ptr 0 0)))], [], [(0, [.d (.int .i64 s_0), .d (.int .i64 s_1), .d (.int .i64 (IntKind.wrap .i64 (s_2 + (if 4096 < (if n_ < 0 then 0 else n_) then 4096 else (if n_ < 0 then 0 else n_)))))])], 1⟩ [2 + 1 ≤ 3] (by kernel_rfl) ⟨(by decide), trivial⟩ ?_
  refine At.step hm ht ⟨[], [], [], [0], [0]⟩ 2 ⟨[(0, .one (.c (.ptr 0 0)))], [], [(0, [.d (.int .i64 (if (IntKind.wrap .i64 (s_0 - (IntKind.wrap .i64 (Int.tdiv (IntKind.wrap .i64 (s_2 + (if 4096 < (if n_ < 0 then 0 else n_) then 4096 else (if n_ < 0 then 0 else n_)))) 8)))) < 0 then 0 else (IntKind.wrap .i64 (s_0 - (IntKind.wrap .i64 (Int.tdiv (IntKind.wrap .i64 (s_2 + (if 4096 < (if n_ < 0 then 0 else n_) then 4096 else (if n_ < 0 then 0 else n_)))) 8)))))), .d (.int .i64 s_1), .d (.int .i64 (IntKind.wrap .i64 (s_2 + (if 4096 < (if n_ < 0 then 0 else n_) then 4096 else (if n_ < 0 then 0 else n_)))))])], 1⟩ [(8 : Int) ≠ 0, 0 + 1 ≤ 3] (by kernel_rfl) ⟨(by decide), (by decide), trivial⟩ ?_
  have h := Option.some.inj h
  subst h
  exact At.fin hm ht ⟨[], [], [], [], [0]⟩ [(8 : Int) ≠ 0, 2 + 1 ≤ 3] (by kernel_rfl) ⟨(by decide), (by decide), trivial⟩
/-! (*brougham/quar.Score).Bad -/
def f19_quar_Score_Bad_in (s_0 : Int) (s_1 : Int) (s_2 : Int) : Inn := ⟨[.c (.ptr 0 0)], [], [(0, [.d (.int .i64 s_0), .d (.int .i64 s_1), .d (.int .i64 s_2)])], 1⟩
def f19_quar_Score_Bad_out (r : Bool × Int × Int × Int) : Out := ⟨.one (.c (.d (.bool r.1))), [], [(0, [.d (.int .i64 r.2.1), .d (.int .i64 r.2.2.1), .d (.int .i64 r.2.2.2)])], 1⟩
def f19_quar_Score_Bad (s_0 : Int) (s_1 : Int) (s_2 : Int) : Option (Bool × Int × Int × Int) :=
  some ((decide ((s_0 : Int) ≥ s_1)), s_0, s_1, s_2)
theorem f19_quar_Score_Bad_ok (s_0 : Int) (s_1 : Int) (s_2 : Int) (r : Bool × Int × Int × Int) (h : f19_quar_Score_Bad s_0 s_1 s_2 = some r) : FnOK Go.Proofs.Try.prog 19 (f19_quar_Score_Bad_in s_0 s_1 s_2) (f19_quar_Score_Bad_out r) := by
  unfold f19_quar_Score_Bad at h
  refine At.fn (r := 0) Go.Proofs.Try.func19 rfl (by kernel_rfl) rfl rfl (by kernel_rfl) ?_
  show At Go.Proofs.Try.prog Go.Proofs.Try.f19 1 0 ⟨[(0, .one (.c (.ptr 0 0)))], [], [(0, [.d (.int .i64 s_0), .d (.int .i64 s_1), .d (.int .i64 s_2)])], 1⟩ _
  refine At.step hm ht ⟨[], [], [], [0], [0]⟩ 1 ⟨[(0, .one (.c (.ptr 0 0)))], [], [(0, [.d (.int .i64 s_0), .d (.int .i64 s_1), .d (.int .i64 s_2)])], 1⟩ [] (by kernel_rfl) trivial ?_
  have h := Option.some.inj h
  subst h
  exact At.fin hm ht ⟨[], [], [], [2], [0]⟩ [] (by kernel_rfl) trivial
/-! brougham/broughamlaw14.alive -/
def f20_broughamlaw14_alive_in : Inn := ⟨[], [], [], 0⟩
def f20_broughamlaw14_alive_out (r : Bool) : Out := ⟨.one (.c (.d (.bool r))), [], [], 0⟩
def f20_broughamlaw14_alive : Option (Bool) :=
  (f15_quar_New 4).bind fun r40_0 =>
  (f16_quar_Score_Add 4 r40_0.1 r40_0.2.1 r40_0.2.2).bind fun r42_0 =>
  (f19_quar_Score_Bad r42_0.1 r42_0.2.1 r42_0.2.2).bind fun r43_0 =>
  (f18_quar_Score_Tick 8 r43_0.2.1 r43_0.2.2.1 r43_0.2.2.2).bind fun r44_0 =>
  if r43_0.1 = true then
    (f17_quar_Score_Points r44_0.1 r44_0.2.1 r44_0.2.2).bind fun r45_0 =>
    if ((r45_0.1 : Int) == 3) = true then
      (f19_quar_Score_Bad r45_0.2.1 r45_0.2.2.1 r45_0.2.2.2).bind fun r45_1 =>
      if (!r45_1.1) = true then
        some true
      else
        some false
    else
      some false
  else
    some false
theorem f20_broughamlaw14_alive_ok (r : Bool) (h : f20_broughamlaw14_alive = some r) : FnOK Go.Proofs.Try.prog 20 (f20_broughamlaw14_alive_in) (f20_broughamlaw14_alive_out r) := by
  unfold f20_broughamlaw14_alive at h
  refine At.fn (r := 0) Go.Proofs.Try.func20 rfl (by kernel_rfl) rfl rfl (by kernel_rfl) ?_
  show At Go.Proofs.Try.prog Go.Proofs.Try.f20 0 0 ⟨[], [], [], 0⟩ _
  refine At.step hm ht ⟨[], [], [], [], []⟩ 1 ⟨[], [], [], 0⟩ [] (by kernel_rfl) trivial ?_
  obtain ⟨r40_0, cr40_0, h⟩ := bindS h
  refine At.step hm ht ⟨[(0, .call [] [] (f15_quar_New_out r40_0))], [], [], [1], [0]⟩ 2 ⟨[(1, .one (.c (.ptr 0 0)))], [], [(0, [.d (.int .i64 r40_0.1), .d (.int .i64 r40_0.2.1), .d (.int .i64 r40_0.2.2)])], 1⟩ [FnOK Go.Proofs.Try.prog 15 (f15_quar_New_in 4) (f15_quar_New_out r40_0)] (by kernel_rfl) ⟨(f15_quar_New_ok 4 r40_0 cr40_0), trivial⟩ ?_
  refine At.step hm ht ⟨[], [false], [], [1], [0]⟩ 4 ⟨[(1, .one (.c (.ptr 0 0)))], [], [(0, [.d (.int .i64 r40_0.1), .d (.int .i64 r40_0.2.1), .d (.int .i64 r40_0.2.2)])], 1⟩ [false = false] (by kernel_rfl) ⟨rfl, trivial⟩ ?_
  obtain ⟨r42_0, cr42_0, h⟩ := bindS h
  refine At.step hm ht ⟨[(1, .call [0] [] (f16_quar_Score_Add_out r42_0))], [], [], [1], [0]⟩ 5 ⟨[(1, .one (.c (.ptr 0 0)))], [], [(0, [.d (.int .i64 r42_0.1), .d (.int .i64 r42_0.2.1), .d (.int .i64 r42_0.2.2)])], 1⟩ [FnOK Go.Proofs.Try.prog 16 (f16_quar_Score_Add_in 4 r40_0.1 r40_0.2.1 r40_0.2.2) (f16_quar_Score_Add_out r42_0)] (by kernel_rfl) ⟨(f16_quar_Score_Add_ok 4 r40_0.1 r40_0.2.1 r40_0.2.2 r42_0 cr42_0), trivial⟩ ?_
  obtain ⟨r43_0, cr43_0, h⟩ := bindS h
  refine At.step hm ht ⟨[(1, .call [0] [] (f19_quar_Score_Bad_out r43_0))], [], [], [1, 2], [0]⟩ 6 ⟨[(1, .one (.c (.ptr 0 0))), (2, .one (.c (.d (.bool r43_0.1))))], [], [(0, [.d (.int .i64 r43_0.2.1), .d (.int .i64 r43_0.2.2.1), .d (.int .i64 r43_0.2.2.2)])], 1⟩ [FnOK Go.Proofs.Try.prog 19 (f19_quar_Score_Bad_in r42_0.1 r42_0.2.1 r42_0.2.2) (f19_quar_Score_Bad_out r43_0)] (by kernel_rfl) ⟨(f19_quar_Score_Bad_ok r42_0.1 r42_0.2.1 r42_0.2.2 r43_0 cr43_0), trivial⟩ ?_
  obtain ⟨r44_0, cr44_0, h⟩ := bindS h
  refine At.step hm ht ⟨[(1, .call [0] [] (f18_quar_Score_Tick_out r44_0))], [], [], [1, 2], [0]⟩ 7 ⟨[(1, .one (.c (.ptr 0 0))), (2, .one (.c (.d (.bool r43_0.1))))], [], [(0, [.d (.int .i64 r44_0.1), .d (.int .i64 r44_0.2.1), .d (.int .i64 r44_0.2.2)])], 1⟩ [FnOK Go.Proofs.Try.prog 18 (f18_quar_Score_Tick_in 8 r43_0.2.1 r43_0.2.2.1 r43_0.2.2.2) (f18_quar_Score_Tick_out r44_0)] (by kernel_rfl) ⟨(f18_quar_Score_Tick_ok 8 r43_0.2.1 r43_0.2.2.1 r43_0.2.2.2 r44_0 cr44_0), trivial⟩ ?_
  rcases iteS h with ⟨b45_1, h⟩ | ⟨b45_1, h⟩
  · obtain ⟨r45_0, cr45_0, h⟩ := bindS h
    rcases iteS h with ⟨b45_6, h⟩ | ⟨b45_6, h⟩
    · obtain ⟨r45_1, cr45_1, h⟩ := bindS h
      rcases iteS h with ⟨b45_11, h⟩ | ⟨b45_11, h⟩
      · have h := Option.some.inj h
        subst h
        exact At.fin hm ht ⟨[(1, .b true), (3, .call [0] [] (f17_quar_Score_Points_out r45_0)), (6, .b true), (8, .call [0] [] (f19_quar_Score_Bad_out r45_1)), (11, .b true)], [], [], [0], []⟩ [r43_0.1 = true, FnOK Go.Proofs.Try.prog 17 (f17_quar_Score_Points_in r44_0.1 r44_0.2.1 r44_0.2.2) (f17_quar_Score_Points_out r45_0), ((r45_0.1 : Int) == 3) = true, FnOK Go.Proofs.Try.prog 19 (f19_quar_Score_Bad_in r45_0.2.1 r45_0.2.2.1 r45_0.2.2.2) (f19_quar_Score_Bad_out r45_1), (!r45_1.1) = true] (by kernel_rfl) ⟨b45_1, (f17_quar_Score_Points_ok r44_0.1 r44_0.2.1 r44_0.2.2 r45_0 cr45_0), b45_6, (f19_quar_Score_Bad_ok r45_0.2.1 r45_0.2.2.1 r45_0.2.2.2 r45_1 cr45_1), b45_11, trivial⟩
      · have h := Option.some.inj h
        subst h
        exact At.fin hm ht ⟨[(1, .b true), (3, .call [0] [] (f17_quar_Score_Points_out r45_0)), (6, .b true), (8, .call [0] [] (f19_quar_Score_Bad_out r45_1)), (11, .b false)], [], [], [0], []⟩ [r43_0.1 = true, FnOK Go.Proofs.Try.prog 17 (f17_quar_Score_Points_in r44_0.1 r44_0.2.1 r44_0.2.2) (f17_quar_Score_Points_out r45_0), ((r45_0.1 : Int) == 3) = true, FnOK Go.Proofs.Try.prog 19 (f19_quar_Score_Bad_in r45_0.2.1 r45_0.2.2.1 r45_0.2.2.2) (f19_quar_Score_Bad_out r45_1), (!r45_1.1) = false] (by kernel_rfl) ⟨b45_1, (f17_quar_Score_Points_ok r44_0.1 r44_0.2.1 r44_0.2.2 r45_0 cr45_0), b45_6, (f19_quar_Score_Bad_ok r45_0.2.1 r45_0.2.2.1 r45_0.2.2.2 r45_1 cr45_1), b45_11, trivial⟩
    · have h := Option.some.inj h
      subst h
      exact At.fin hm ht ⟨[(1, .b true), (3, .call [0] [] (f17_quar_Score_Points_out r45_0)), (6, .b false)], [], [], [0], []⟩ [r43_0.1 = true, FnOK Go.Proofs.Try.prog 17 (f17_quar_Score_Points_in r44_0.1 r44_0.2.1 r44_0.2.2) (f17_quar_Score_Points_out r45_0), ((r45_0.1 : Int) == 3) = false] (by kernel_rfl) ⟨b45_1, (f17_quar_Score_Points_ok r44_0.1 r44_0.2.1 r44_0.2.2 r45_0 cr45_0), b45_6, trivial⟩
  · have h := Option.some.inj h
    subst h
    exact At.fin hm ht ⟨[(1, .b false)], [], [], [0], []⟩ [r43_0.1 = false] (by kernel_rfl) ⟨b45_1, trivial⟩
/-! brougham/broughamlaw14.QuarForgets -/
def f3_broughamlaw14_QuarForgets_in (limit : Int) (l : List Int) : Inn := ⟨[.c (.d (.int .i64 limit)), .c (.d (.sl (.int .i64) l))], [], [], 0⟩
def f3_broughamlaw14_QuarForgets_out (r : Bool) : Out := ⟨.one (.c (.d (.bool r))), [], [], 0⟩
def f3_broughamlaw14_QuarForgets_L7 : Nat → Int → (List Int) → Int → Int → Int → Int → Option ((Bool) ⊕ (Int × Int × Int × Int))
  | 0, _, _, _, _, _, _ => none
  | n + 1, limit, l, i, s_0, s_1, s_2 =>
    if (decide ((i : Int) < ((l.length : Nat) : Int))) = true then
      if (0 : Int) ≤ i ∧ i < (((l).length : Nat) : Int) then
      (f16_quar_Score_Add (l.getD i.toNat 0) s_0 s_1 s_2).bind fun r12_1 =>
      (f17_quar_Score_Points r12_1.1 r12_1.2.1 r12_1.2.2).bind fun r14_0 =>
      if (decide ((r14_0.1 : Int) > (IntKind.wrap .i64 (4 * limit)))) = true then
        some (.inl false)
      else
        (f17_quar_Score_Points r14_0.2.1 r14_0.2.2.1 r14_0.2.2.2).bind fun r14_1 =>
        if (decide ((r14_1.1 : Int) < 0)) = true then
          some (.inl false)
        else
          f3_broughamlaw14_QuarForgets_L7 n limit l (IntKind.wrap .i64 (i + 1)) r14_1.2.1 r14_1.2.2.1 r14_1.2.2.2
      else none
    else
      some (.inr ((limit, s_0, s_1, s_2)))
def f3_broughamlaw14_QuarForgets_L7_k (w : (Bool) ⊕ (Int × Int × Int × Int)) (o : Out) : Prop := match w with
  | .inl e => o = f3_broughamlaw14_QuarForgets_out e
  | .inr e => At Go.Proofs.Try.prog Go.Proofs.Try.f3 0 12 ⟨[(0, .one (.c (.d (.int .i64 e.1)))), (5, .one (.c (.ptr 0 0)))], [], [(0, [.d (.int .i64 e.2.1), .d (.int .i64 e.2.2.1), .d (.int .i64 e.2.2.2)])], 1⟩ o
theorem f3_broughamlaw14_QuarForgets_L7_ok (n : Nat) : ∀ (limit : Int) (l : List Int) (i : Int) (s_0 : Int) (s_1 : Int) (s_2 : Int) (w : (Bool) ⊕ (Int × Int × Int × Int)) (h : f3_broughamlaw14_QuarForgets_L7 n limit l i s_0 s_1 s_2 = some w) (o : Out) (hk : f3_broughamlaw14_QuarForgets_L7_k w o), At Go.Proofs.Try.prog Go.Proofs.Try.f3 0 7 ⟨[(0, .one (.c (.d (.int .i64 limit)))), (1, .one (.c (.d (.sl (.int .i64) l)))), (5, .one (.c (.ptr 0 0))), (6, .one (.c (.d (.int .i64 i))))], [], [(0, [.d (.int .i64 s_0), .d (.int .i64 s_1), .d (.int .i64 s_2)])], 1⟩ o := by
  induction n with
  | zero => intro limit l i s_0 s_1 s_2 w h; rw [f3_broughamlaw14_QuarForgets_L7] at h; cases h
  | succ n ih =>
    intro limit l i s_0 s_1 s_2 w h o hk
    rw [f3_broughamlaw14_QuarForgets_L7] at h
    rcases iteS h with ⟨b11_e0, h⟩ | ⟨b11_e0, h⟩
    · refine At.step hm ht ⟨[], [true], [], [0, 1, 5, 6], [0]⟩ 9 ⟨[(0, .one (.c (.d (.int .i64 limit)))), (1, .one (.c (.d (.sl (.int .i64) l)))), (5, .one (.c (.ptr 0 0))), (6, .one (.c (.d (.int .i64 i))))], [], [(0, [.d (.int .i64 s_0), .d (.int .i64 s_1), .d (.int .i64 s_2)])], 1⟩ [(decide ((i : Int) < ((l.length : Nat) : Int))) = true] (by kernel_rfl) ⟨b11_e0, trivial⟩ ?_
      obtain ⟨g12_0, h⟩ := ifS h
      obtain ⟨r12_1, cr12_1, h⟩ := bindS h
      refine At.step hm ht ⟨[(5, .call [0] [] (f16_quar_Score_Add_out r12_1))], [], [], [0, 1, 5, 6], [0]⟩ 10 ⟨[(0, .one (.c (.d (.int .i64 limit)))), (1, .one (.c (.d (.sl (.int .i64) l)))), (5, .one (.c (.ptr 0 0))), (6, .one (.c (.d (.int .i64 i))))], [], [(0, [.d (.int .i64 r12_1.1), .d (.int .i64 r12_1.2.1), .d (.int .i64 r12_1.2.2)])], 1⟩ [(0 : Int) ≤ i ∧ i < (((l).length : Nat) : Int), FnOK Go.Proofs.Try.prog 16 (f16_quar_Score_Add_in (l.getD i.toNat 0) s_0 s_1 s_2) (f16_quar_Score_Add_out r12_1)] (by kernel_rfl) ⟨g12_0, (f16_quar_Score_Add_ok (l.getD i.toNat 0) s_0 s_1 s_2 r12_1 cr12_1), trivial⟩ ?_
      obtain ⟨r14_0, cr14_0, h⟩ := bindS h
      rcases iteS h with ⟨b14_5, h⟩ | ⟨b14_5, h⟩
      · refine At.step hm ht ⟨[(1, .call [0] [] (f17_quar_Score_Points_out r14_0)), (5, .b true)], [true], [], [], []⟩ 11 ⟨[], [], [], 0⟩ [FnOK Go.Proofs.Try.prog 17 (f17_quar_Score_Points_in r12_1.1 r12_1.2.1 r12_1.2.2) (f17_quar_Score_Points_out r14_0), (decide ((r14_0.1 : Int) > (IntKind.wrap .i64 (4 * limit)))) = true, true = true] (by kernel_rfl) ⟨(f17_quar_Score_Points_ok r12_1.1 r12_1.2.1 r12_1.2.2 r14_0 cr14_0), b14_5, rfl, trivial⟩ ?_
        have h := Option.some.inj h
        subst h
        have hk : o = f3_broughamlaw14_QuarForgets_out false := hk
        subst hk
        exact At.fin hm ht ⟨[], [], [], [4], []⟩ [] (by kernel_rfl) trivial
      · obtain ⟨r14_1, cr14_1, h⟩ := bindS h
        rcases iteS h with ⟨b14_e0, h⟩ | ⟨b14_e0, h⟩
        · refine At.step hm ht ⟨[(1, .call [0] [] (f17_quar_Score_Points_out r14_0)), (5, .b false), (7, .call [0] [] (f17_quar_Score_Points_out r14_1))], [true], [], [], []⟩ 11 ⟨[], [], [], 0⟩ [FnOK Go.Proofs.Try.prog 17 (f17_quar_Score_Points_in r12_1.1 r12_1.2.1 r12_1.2.2) (f17_quar_Score_Points_out r14_0), (decide ((r14_0.1 : Int) > (IntKind.wrap .i64 (4 * limit)))) = false, FnOK Go.Proofs.Try.prog 17 (f17_quar_Score_Points_in r14_0.2.1 r14_0.2.2.1 r14_0.2.2.2) (f17_quar_Score_Points_out r14_1), (decide ((r14_1.1 : Int) < 0)) = true] (by kernel_rfl) ⟨(f17_quar_Score_Points_ok r12_1.1 r12_1.2.1 r12_1.2.2 r14_0 cr14_0), b14_5, (f17_quar_Score_Points_ok r14_0.2.1 r14_0.2.2.1 r14_0.2.2.2 r14_1 cr14_1), b14_e0, trivial⟩ ?_
          have h := Option.some.inj h
          subst h
          have hk : o = f3_broughamlaw14_QuarForgets_out false := hk
          subst hk
          exact At.fin hm ht ⟨[], [], [], [4], []⟩ [] (by kernel_rfl) trivial
        · refine At.step hm ht ⟨[(1, .call [0] [] (f17_quar_Score_Points_out r14_0)), (5, .b false), (7, .call [0] [] (f17_quar_Score_Points_out r14_1))], [false], [], [0, 1, 5, 6], [0]⟩ 8 ⟨[(0, .one (.c (.d (.int .i64 limit)))), (1, .one (.c (.d (.sl (.int .i64) l)))), (5, .one (.c (.ptr 0 0))), (6, .one (.c (.d (.int .i64 i))))], [], [(0, [.d (.int .i64 r14_1.2.1), .d (.int .i64 r14_1.2.2.1), .d (.int .i64 r14_1.2.2.2)])], 1⟩ [FnOK Go.Proofs.Try.prog 17 (f17_quar_Score_Points_in r12_1.1 r12_1.2.1 r12_1.2.2) (f17_quar_Score_Points_out r14_0), (decide ((r14_0.1 : Int) > (IntKind.wrap .i64 (4 * limit)))) = false, FnOK Go.Proofs.Try.prog 17 (f17_quar_Score_Points_in r14_0.2.1 r14_0.2.2.1 r14_0.2.2.2) (f17_quar_Score_Points_out r14_1), (decide ((r14_1.1 : Int) < 0)) = false] (by kernel_rfl) ⟨(f17_quar_Score_Points_ok r12_1.1 r12_1.2.1 r12_1.2.2 r14_0 cr14_0), b14_5, (f17_quar_Score_Points_ok r14_0.2.1 r14_0.2.2.1 r14_0.2.2.2 r14_1 cr14_1), b14_e0, trivial⟩ ?_
          refine At.step hm ht ⟨[], [], [], [0, 1, 5, 6], [0]⟩ 7 ⟨[(0, .one (.c (.d (.int .i64 limit)))), (1, .one (.c (.d (.sl (.int .i64) l)))), (5, .one (.c (.ptr 0 0))), (6, .one (.c (.d (.int .i64 (IntKind.wrap .i64 (i + 1))))))], [], [(0, [.d (.int .i64 r14_1.2.1), .d (.int .i64 r14_1.2.2.1), .d (.int .i64 r14_1.2.2.2)])], 1⟩ [] (by kernel_rfl) trivial ?_
          exact ih limit l (IntKind.wrap .i64 (i + 1)) r14_1.2.1 r14_1.2.2.1 r14_1.2.2.2 w h o hk
    · refine At.step hm ht ⟨[], [false], [], [0, 5], [0]⟩ 12 ⟨[(0, .one (.c (.d (.int .i64 limit)))), (5, .one (.c (.ptr 0 0)))], [], [(0, [.d (.int .i64 s_0), .d (.int .i64 s_1), .d (.int .i64 s_2)])], 1⟩ [(decide ((i : Int) < ((l.length : Nat) : Int))) = false] (by kernel_rfl) ⟨b11_e0, trivial⟩ ?_
      have h := Option.some.inj h
      subst h
      exact hk
def f3_broughamlaw14_QuarForgets_L13 : Nat → Int → Int → Int → Int → Int → Option ((Bool) ⊕ (Int × Int × Int))
  | 0, _, _, _, _, _ => none
  | n + 1, limit, i, s_0, s_1, s_2 =>
    if (decide ((i : Int) < (IntKind.wrap .i64 (32 * limit)))) = true then
      (f17_quar_Score_Points s_0 s_1 s_2).bind fun r25_0 =>
      (f18_quar_Score_Tick 1 r25_0.2.1 r25_0.2.2.1 r25_0.2.2.2).bind fun r26_0 =>
      (f17_quar_Score_Points r26_0.1 r26_0.2.1 r26_0.2.2).bind fun r30_0 =>
      if (decide ((r30_0.1 : Int) > r25_0.1)) = true then
        some (.inl false)
      else
        f3_broughamlaw14_QuarForgets_L13 n limit (IntKind.wrap .i64 (i + 1)) r30_0.2.1 r30_0.2.2.1 r30_0.2.2.2
    else
      some (.inr ((s_0, s_1, s_2)))
def f3_broughamlaw14_QuarForgets_L13_k (w : (Bool) ⊕ (Int × Int × Int)) (o : Out) : Prop := match w with
  | .inl e => o = f3_broughamlaw14_QuarForgets_out e
  | .inr e => At Go.Proofs.Try.prog Go.Proofs.Try.f3 0 19 ⟨[(5, .one (.c (.ptr 0 0)))], [], [(0, [.d (.int .i64 e.1), .d (.int .i64 e.2.1), .d (.int .i64 e.2.2)])], 1⟩ o
theorem f3_broughamlaw14_QuarForgets_L13_ok (n : Nat) : ∀ (limit : Int) (i : Int) (s_0 : Int) (s_1 : Int) (s_2 : Int) (w : (Bool) ⊕ (Int × Int × Int)) (h : f3_broughamlaw14_QuarForgets_L13 n limit i s_0 s_1 s_2 = some w) (o : Out) (hk : f3_broughamlaw14_QuarForgets_L13_k w o), At Go.Proofs.Try.prog Go.Proofs.Try.f3 0 13 ⟨[(0, .one (.c (.d (.int .i64 limit)))), (5, .one (.c (.ptr 0 0))), (7, .one (.c (.d (.int .i64 i))))], [], [(0, [.d (.int .i64 s_0), .d (.int .i64 s_1), .d (.int .i64 s_2)])], 1⟩ o := by
  induction n with
  | zero => intro limit i s_0 s_1 s_2 w h; rw [f3_broughamlaw14_QuarForgets_L13] at h; cases h
  | succ n ih =>
    intro limit i s_0 s_1 s_2 w h o hk
    rw [f3_broughamlaw14_QuarForgets_L13] at h
    rcases iteS h with ⟨b24_e0, h⟩ | ⟨b24_e0, h⟩
    · refine At.step hm ht ⟨[], [true], [], [0, 5, 7], [0]⟩ 15 ⟨[(0, .one (.c (.d (.int .i64 limit)))), (5, .one (.c (.ptr 0 0))), (7, .one (.c (.d (.int .i64 i))))], [], [(0, [.d (.int .i64 s_0), .d (.int .i64 s_1), .d (.int .i64 s_2)])], 1⟩ [(decide ((i : Int) < (IntKind.wrap .i64 (32 * limit)))) = true] (by kernel_rfl) ⟨b24_e0, trivial⟩ ?_
      obtain ⟨r25_0, cr25_0, h⟩ := bindS h
      refine At.step hm ht ⟨[(1, .call [0] [] (f17_quar_Score_Points_out r25_0))], [], [], [0, 5, 7, 8], [0]⟩ 16 ⟨[(0, .one (.c (.d (.int .i64 limit)))), (5, .one (.c (.ptr 0 0))), (7, .one (.c (.d (.int .i64 i)))), (8, .one (.c (.d (.int .i64 r25_0.1))))], [], [(0, [.d (.int .i64 r25_0.2.1), .d (.int .i64 r25_0.2.2.1), .d (.int .i64 r25_0.2.2.2)])], 1⟩ [FnOK Go.Proofs.Try.prog 17 (f17_quar_Score_Points_in s_0 s_1 s_2) (f17_quar_Score_Points_out r25_0)] (by kernel_rfl) ⟨(f17_quar_Score_Points_ok s_0 s_1 s_2 r25_0 cr25_0), trivial⟩ ?_
      obtain ⟨r26_0, cr26_0, h⟩ := bindS h
      refine At.step hm ht ⟨[(1, .call [0] [] (f18_quar_Score_Tick_out r26_0))], [], [], [0, 5, 7, 8], [0]⟩ 17 ⟨[(0, .one (.c (.d (.int .i64 limit)))), (5, .one (.c (.ptr 0 0))), (7, .one (.c (.d (.int .i64 i)))), (8, .one (.c (.d (.int .i64 r25_0.1))))], [], [(0, [.d (.int .i64 r26_0.1), .d (.int .i64 r26_0.2.1), .d (.int .i64 r26_0.2.2)])], 1⟩ [FnOK Go.Proofs.Try.prog 18 (f18_quar_Score_Tick_in 1 r25_0.2.1 r25_0.2.2.1 r25_0.2.2.2) (f18_quar_Score_Tick_out r26_0)] (by kernel_rfl) ⟨(f18_quar_Score_Tick_ok 1 r25_0.2.1 r25_0.2.2.1 r25_0.2.2.2 r26_0 cr26_0), trivial⟩ ?_
      obtain ⟨r30_0, cr30_0, h⟩ := bindS h
      rcases iteS h with ⟨b30_e0, h⟩ | ⟨b30_e0, h⟩
      · refine At.step hm ht ⟨[(1, .call [0] [] (f17_quar_Score_Points_out r30_0))], [true], [], [], []⟩ 18 ⟨[], [], [], 0⟩ [FnOK Go.Proofs.Try.prog 17 (f17_quar_Score_Points_in r26_0.1 r26_0.2.1 r26_0.2.2) (f17_quar_Score_Points_out r30_0), (decide ((r30_0.1 : Int) > r25_0.1)) = true] (by kernel_rfl) ⟨(f17_quar_Score_Points_ok r26_0.1 r26_0.2.1 r26_0.2.2 r30_0 cr30_0), b30_e0, trivial⟩ ?_
        have h := Option.some.inj h
        subst h
        have hk : o = f3_broughamlaw14_QuarForgets_out false := hk
        subst hk
        exact At.fin hm ht ⟨[], [], [], [4], []⟩ [] (by kernel_rfl) trivial
      · refine At.step hm ht ⟨[(1, .call [0] [] (f17_quar_Score_Points_out r30_0))], [false], [], [0, 5, 7], [0]⟩ 14 ⟨[(0, .one (.c (.d (.int .i64 limit)))), (5, .one (.c (.ptr 0 0))), (7, .one (.c (.d (.int .i64 i))))], [], [(0, [.d (.int .i64 r30_0.2.1), .d (.int .i64 r30_0.2.2.1), .d (.int .i64 r30_0.2.2.2)])], 1⟩ [FnOK Go.Proofs.Try.prog 17 (f17_quar_Score_Points_in r26_0.1 r26_0.2.1 r26_0.2.2) (f17_quar_Score_Points_out r30_0), (decide ((r30_0.1 : Int) > r25_0.1)) = false] (by kernel_rfl) ⟨(f17_quar_Score_Points_ok r26_0.1 r26_0.2.1 r26_0.2.2 r30_0 cr30_0), b30_e0, trivial⟩ ?_
        refine At.step hm ht ⟨[], [], [], [0, 5, 7], [0]⟩ 13 ⟨[(0, .one (.c (.d (.int .i64 limit)))), (5, .one (.c (.ptr 0 0))), (7, .one (.c (.d (.int .i64 (IntKind.wrap .i64 (i + 1))))))], [], [(0, [.d (.int .i64 r30_0.2.1), .d (.int .i64 r30_0.2.2.1), .d (.int .i64 r30_0.2.2.2)])], 1⟩ [] (by kernel_rfl) trivial ?_
        exact ih limit (IntKind.wrap .i64 (i + 1)) r30_0.2.1 r30_0.2.2.1 r30_0.2.2.2 w h o hk
    · refine At.step hm ht ⟨[], [false], [], [5], [0]⟩ 19 ⟨[(5, .one (.c (.ptr 0 0)))], [], [(0, [.d (.int .i64 s_0), .d (.int .i64 s_1), .d (.int .i64 s_2)])], 1⟩ [(decide ((i : Int) < (IntKind.wrap .i64 (32 * limit)))) = false] (by kernel_rfl) ⟨b24_e0, trivial⟩ ?_
      have h := Option.some.inj h
      subst h
      exact hk
def f3_broughamlaw14_QuarForgets (n : Nat) (limit : Int) (l : List Int) : Option (Bool) :=
  if (decide ((limit : Int) < 1)) = true then
    some true
  else
    if (decide ((limit : Int) > 100)) = true then
      some true
    else
      if (decide ((((l.length : Nat) : Int) : Int) > 100)) = true then
        some true
      else
        (f15_quar_New limit).bind fun r6_0 =>
        (f3_broughamlaw14_QuarForgets_L7 n limit l 0 r6_0.1 r6_0.2.1 r6_0.2.2).bind fun w20 =>
        match w20 with
        | .inl e21 =>
          some e21
        | .inr e22 =>
          (f3_broughamlaw14_QuarForgets_L13 n e22.1 0 e22.2.1 e22.2.2.1 e22.2.2.2).bind fun w33 =>
          match w33 with
          | .inl e34 =>
            some e34
          | .inr e35 =>
            (f17_quar_Score_Points e35.1 e35.2.1 e35.2.2).bind fun r36_0 =>
            if ((r36_0.1 : Int) == 0) = true then
              (f19_quar_Score_Bad r36_0.2.1 r36_0.2.2.1 r36_0.2.2.2).bind fun r36_1 =>
              if (!r36_1.1) = true then
                (f20_broughamlaw14_alive).bind fun r36_2 =>
                some r36_2
              else
                some false
            else
              some false
theorem f3_broughamlaw14_QuarForgets_ok (n : Nat) (limit : Int) (l : List Int) (r : Bool) (h : f3_broughamlaw14_QuarForgets n limit l = some r) : FnOK Go.Proofs.Try.prog 3 (f3_broughamlaw14_QuarForgets_in limit l) (f3_broughamlaw14_QuarForgets_out r) := by
  unfold f3_broughamlaw14_QuarForgets at h
  refine At.fn (r := 0) Go.Proofs.Try.func3 rfl (by kernel_rfl) rfl rfl (by kernel_rfl) ?_
  show At Go.Proofs.Try.prog Go.Proofs.Try.f3 0 0 ⟨[(0, .one (.c (.d (.int .i64 limit)))), (1, .one (.c (.d (.sl (.int .i64) l))))], [], [], 0⟩ _
  refine At.step hm ht ⟨[], [], [], [0, 1], []⟩ 1 ⟨[(0, .one (.c (.d (.int .i64 limit)))), (1, .one (.c (.d (.sl (.int .i64) l))))], [], [], 0⟩ [] (by kernel_rfl) trivial ?_
  rcases iteS h with ⟨b2_2, h⟩ | ⟨b2_2, h⟩
  · refine At.step hm ht ⟨[(2, .b true)], [true], [], [], []⟩ 2 ⟨[], [], [], 0⟩ [(decide ((limit : Int) < 1)) = true, true = true] (by kernel_rfl) ⟨b2_2, rfl, trivial⟩ ?_
    have h := Option.some.inj h
    subst h
    exact At.fin hm ht ⟨[], [], [], [4], []⟩ [] (by kernel_rfl) trivial
  · rcases iteS h with ⟨b2_6, h⟩ | ⟨b2_6, h⟩
    · refine At.step hm ht ⟨[(2, .b false), (6, .b true)], [true], [], [], []⟩ 2 ⟨[], [], [], 0⟩ [(decide ((limit : Int) < 1)) = false, (decide ((limit : Int) > 100)) = true, true = true] (by kernel_rfl) ⟨b2_2, b2_6, rfl, trivial⟩ ?_
      have h := Option.some.inj h
      subst h
      exact At.fin hm ht ⟨[], [], [], [4], []⟩ [] (by kernel_rfl) trivial
    · rcases iteS h with ⟨b2_e0, h⟩ | ⟨b2_e0, h⟩
      · refine At.step hm ht ⟨[(2, .b false), (6, .b false)], [true], [], [], []⟩ 2 ⟨[], [], [], 0⟩ [(decide ((limit : Int) < 1)) = false, (decide ((limit : Int) > 100)) = false, (decide ((((l.length : Nat) : Int) : Int) > 100)) = true] (by kernel_rfl) ⟨b2_2, b2_6, b2_e0, trivial⟩ ?_
        have h := Option.some.inj h
        subst h
        exact At.fin hm ht ⟨[], [], [], [4], []⟩ [] (by kernel_rfl) trivial
      · refine At.step hm ht ⟨[(2, .b false), (6, .b false)], [false], [], [0, 1], []⟩ 3 ⟨[(0, .one (.c (.d (.int .i64 limit)))), (1, .one (.c (.d (.sl (.int .i64) l))))], [], [], 0⟩ [(decide ((limit : Int) < 1)) = false, (decide ((limit : Int) > 100)) = false, (decide ((((l.length : Nat) : Int) : Int) > 100)) = false] (by kernel_rfl) ⟨b2_2, b2_6, b2_e0, trivial⟩ ?_
        obtain ⟨r6_0, cr6_0, h⟩ := bindS h
        refine At.step hm ht ⟨[(1, .call [] [] (f15_quar_New_out r6_0))], [], [], [0, 1, 5], [1]⟩ 4 ⟨[(0, .one (.c (.d (.int .i64 limit)))), (1, .one (.c (.d (.sl (.int .i64) l)))), (5, .one (.c (.ptr 0 0)))], [], [(0, [.d (.int .i64 r6_0.1), .d (.int .i64 r6_0.2.1), .d (.int .i64 r6_0.2.2)])], 1⟩ [FnOK Go.Proofs.Try.prog 15 (f15_quar_New_in limit) (f15_quar_New_out r6_0)] (by kernel_rfl) ⟨(f15_quar_New_ok limit r6_0 cr6_0), trivial⟩ ?_
        refine At.step hm ht ⟨[], [false], [], [0, 1, 5], [0]⟩ 6 ⟨[(0, .one (.c (.d (.int .i64 limit)))), (1, .one (.c (.d (.sl (.int .i64) l)))), (5, .one (.c (.ptr 0 0)))], [], [(0, [.d (.int .i64 r6_0.1), .d (.int .i64 r6_0.2.1), .d (.int .i64 r6_0.2.2)])], 1⟩ [false = false] (by kernel_rfl) ⟨rfl, trivial⟩ ?_
        refine At.step hm ht ⟨[], [], [], [0, 1, 5, 6], [0]⟩ 7 ⟨[(0, .one (.c (.d (.int .i64 limit)))), (1, .one (.c (.d (.sl (.int .i64) l)))), (5, .one (.c (.ptr 0 0))), (6, .one (.c (.d (.int .i64 0))))], [], [(0, [.d (.int .i64 r6_0.1), .d (.int .i64 r6_0.2.1), .d (.int .i64 r6_0.2.2)])], 1⟩ [] (by kernel_rfl) trivial ?_
        obtain ⟨w20, cw20, h⟩ := bindS h
        refine f3_broughamlaw14_QuarForgets_L7_ok n limit l 0 r6_0.1 r6_0.2.1 r6_0.2.2 w20 cw20 _ ?_
        rcases w20 with e21 | e22
        · have h := Option.some.inj h
          subst h
          rfl
        · show At Go.Proofs.Try.prog Go.Proofs.Try.f3 0 12 ⟨[(0, .one (.c (.d (.int .i64 e22.1)))), (5, .one (.c (.ptr 0 0)))], [], [(0, [.d (.int .i64 e22.2.1), .d (.int .i64 e22.2.2.1), .d (.int .i64 e22.2.2.2)])], 1⟩ _
          refine At.step hm ht ⟨[], [], [], [0, 5, 7], [0]⟩ 13 ⟨[(0, .one (.c (.d (.int .i64 e22.1)))), (5, .one (.c (.ptr 0 0))), (7, .one (.c (.d (.int .i64 0))))], [], [(0, [.d (.int .i64 e22.2.1), .d (.int .i64 e22.2.2.1), .d (.int .i64 e22.2.2.2)])], 1⟩ [] (by kernel_rfl) trivial ?_
          obtain ⟨w33, cw33, h⟩ := bindS h
          refine f3_broughamlaw14_QuarForgets_L13_ok n e22.1 0 e22.2.1 e22.2.2.1 e22.2.2.2 w33 cw33 _ ?_
          rcases w33 with e34 | e35
          · have h := Option.some.inj h
            subst h
            rfl
          · show At Go.Proofs.Try.prog Go.Proofs.Try.f3 0 19 ⟨[(5, .one (.c (.ptr 0 0)))], [], [(0, [.d (.int .i64 e35.1), .d (.int .i64 e35.2.1), .d (.int .i64 e35.2.2)])], 1⟩ _
            obtain ⟨r36_0, cr36_0, h⟩ := bindS h
            rcases iteS h with ⟨b36_3, h⟩ | ⟨b36_3, h⟩
            · obtain ⟨r36_1, cr36_1, h⟩ := bindS h
              rcases iteS h with ⟨b36_8, h⟩ | ⟨b36_8, h⟩
              · obtain ⟨r36_2, cr36_2, h⟩ := bindS h
                have h := Option.some.inj h
                subst h
                exact At.fin hm ht ⟨[(1, .call [0] [] (f17_quar_Score_Points_out r36_0)), (3, .b true), (5, .call [0] [] (f19_quar_Score_Bad_out r36_1)), (8, .b true), (9, .call [] [] (f20_broughamlaw14_alive_out r36_2))], [], [], [4], []⟩ [FnOK Go.Proofs.Try.prog 17 (f17_quar_Score_Points_in e35.1 e35.2.1 e35.2.2) (f17_quar_Score_Points_out r36_0), ((r36_0.1 : Int) == 0) = true, FnOK Go.Proofs.Try.prog 19 (f19_quar_Score_Bad_in r36_0.2.1 r36_0.2.2.1 r36_0.2.2.2) (f19_quar_Score_Bad_out r36_1), (!r36_1.1) = true, FnOK Go.Proofs.Try.prog 20 (f20_broughamlaw14_alive_in) (f20_broughamlaw14_alive_out r36_2)] (by kernel_rfl) ⟨(f17_quar_Score_Points_ok e35.1 e35.2.1 e35.2.2 r36_0 cr36_0), b36_3, (f19_quar_Score_Bad_ok r36_0.2.1 r36_0.2.2.1 r36_0.2.2.2 r36_1 cr36_1), b36_8, (f20_broughamlaw14_alive_ok r36_2 cr36_2), trivial⟩
              · have h := Option.some.inj h
                subst h
                exact At.fin hm ht ⟨[(1, .call [0] [] (f17_quar_Score_Points_out r36_0)), (3, .b true), (5, .call [0] [] (f19_quar_Score_Bad_out r36_1)), (8, .b false)], [], [], [4], []⟩ [FnOK Go.Proofs.Try.prog 17 (f17_quar_Score_Points_in e35.1 e35.2.1 e35.2.2) (f17_quar_Score_Points_out r36_0), ((r36_0.1 : Int) == 0) = true, FnOK Go.Proofs.Try.prog 19 (f19_quar_Score_Bad_in r36_0.2.1 r36_0.2.2.1 r36_0.2.2.2) (f19_quar_Score_Bad_out r36_1), (!r36_1.1) = false] (by kernel_rfl) ⟨(f17_quar_Score_Points_ok e35.1 e35.2.1 e35.2.2 r36_0 cr36_0), b36_3, (f19_quar_Score_Bad_ok r36_0.2.1 r36_0.2.2.1 r36_0.2.2.2 r36_1 cr36_1), b36_8, trivial⟩
            · have h := Option.some.inj h
              subst h
              exact At.fin hm ht ⟨[(1, .call [0] [] (f17_quar_Score_Points_out r36_0)), (3, .b false)], [], [], [4], []⟩ [FnOK Go.Proofs.Try.prog 17 (f17_quar_Score_Points_in e35.1 e35.2.1 e35.2.2) (f17_quar_Score_Points_out r36_0), ((r36_0.1 : Int) == 0) = false] (by kernel_rfl) ⟨(f17_quar_Score_Points_ok e35.1 e35.2.1 e35.2.2 r36_0 cr36_0), b36_3, trivial⟩
end Go.Proofs.YtjmebloeodcoaaaF14
