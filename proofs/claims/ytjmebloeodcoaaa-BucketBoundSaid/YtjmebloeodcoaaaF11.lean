/- What the functions compute, and that they do: printed by a program of this session (zgen.py), proved by Zed. -/
import Derived.Test.YtjmebloeodcoaaaProg
import Derived.Test.YtjmebloeodcoaaaZedY
namespace Go.Proofs.YtjmebloeodcoaaaF11
open Go Zed
set_option maxRecDepth 100000
set_option linter.unusedVariables false
def tab : Tab := [(3, ⟨.int .i64, 1, 8, [.int .i64 0], some (.int .i64), none⟩), (4, ⟨.bool, 1, 1, [.bool false], some .bool, none⟩), (22, ⟨.slice 3, 1, 24, [.sl .unit []], some (.slice (.int .i64)), none⟩), (29, ⟨.ptr 79, 1, 8, [.nilP], none, none⟩), (32, ⟨.struct [(0, 3), (1, 3), (2, 3)], 3, 24, [.int .i64 0, .int .i64 0, .int .i64 0], some (.pair (.int .i64) (.pair (.int .i64) (.int .i64))), some [(0, 3), (1, 3), (2, 3)]⟩), (79, ⟨.struct [(0, 3), (1, 3), (2, 3)], 3, 24, [.int .i64 0, .int .i64 0, .int .i64 0], some (.pair (.int .i64) (.pair (.int .i64) (.int .i64))), some [(0, 3), (1, 3), (2, 3)]⟩)]
theorem ht : TabOk Go.Proofs.Try.prog tab := tabOk_of (ts := [3, 4, 22, 29, 32, 79]) (by kernel_rfl)
theorem hm : Go.Proofs.Try.prog.follows .mixedOrders = true := by kernel_rfl
/-! brougham/bucket.New -/
def f21_bucket_New_in (burst : Int) (rate : Int) : Inn := ⟨[.c (.d (.int .i64 burst)), .c (.d (.int .i64 rate))], [], [], 0⟩
def f21_bucket_New_out (r : Int × Int × Int) : Out := ⟨.one (.c (.ptr 0 0)), [], [(0, [.d (.int .i64 r.1), .d (.int .i64 r.2.1), .d (.int .i64 r.2.2)])], 1⟩
def f21_bucket_New (burst : Int) (rate : Int) : Option (Int × Int × Int) :=
  some ((if 4096 < (if burst < 0 then 0 else burst) then 4096 else (if burst < 0 then 0 else burst)), (if 4096 < (if rate < 0 then 0 else rate) then 4096 else (if rate < 0 then 0 else rate)), (if 4096 < (if burst < 0 then 0 else burst) then 4096 else (if burst < 0 then 0 else burst)))
theorem f21_bucket_New_ok (burst : Int) (rate : Int) (r : Int × Int × Int) (h : f21_bucket_New burst rate = some r) : FnOK Go.Proofs.Try.prog 21 (f21_bucket_New_in burst rate) (f21_bucket_New_out r) := by
  unfold f21_bucket_New at h
  refine At.fn (r := 0) Go.Proofs.Try.func21 rfl (by kernel_rfl) rfl rfl (by kernel_rfl) ?_
  show At Go.Proofs.Try.prog Go.Proofs.Try.f21 0 0 ⟨[(0, .one (.c (.d (.int .i64 burst)))), (1, .one (.c (.d (.int .i64 rate))))], [], [], 0⟩ _
  refine At.step hm ht ⟨[], [], [], [0, 1], []⟩ 1 ⟨[(0, .one (.c (.d (.int .i64 burst)))), (1, .one (.c (.d (.int .i64 rate))))], [], [], 0⟩ [] (by kernel_rfl) trivial ?_
  refine At.step hm ht ⟨[], [], [], [0, 1], []⟩ 2 ⟨[(0, .one (.c (.d (.int .i64 (if 4096 < (if burst < 0 then 0 else burst) then 4096 else (if burst < 0 then 0 else burst)))))), (1, .one (.c (.d (.int .i64 (if 4096 < (if rate < 0 then 0 else rate) then 4096 else (if rate < 0 then 0 else rate))))))], [], [], 0⟩ [] (by kernel_rfl) trivial ?_
  have h := Option.some.inj h
  subst h
  exact At.fin hm ht ⟨[], [], [], [4], [4]⟩ [] (by kernel_rfl) trivial
/-! brougham/broughamref11.Within -/
def f59_broughamref11_Within_in (n_ : Int) : Inn := ⟨[.c (.d (.int .i64 n_))], [], [], 0⟩
def f59_broughamref11_Within_out (r : Int) : Out := ⟨.one (.c (.d (.int .i64 r))), [], [], 0⟩
def f59_broughamref11_Within (n_ : Int) : Option (Int) :=
  if (decide ((n_ : Int) < 0)) = true then
    some 0
  else
    if (decide ((n_ : Int) > 4096)) = true then
      some 4096
    else
      some n_
theorem f59_broughamref11_Within_ok (n_ : Int) (r : Int) (h : f59_broughamref11_Within n_ = some r) : FnOK Go.Proofs.Try.prog 59 (f59_broughamref11_Within_in n_) (f59_broughamref11_Within_out r) := by
  unfold f59_broughamref11_Within at h
  refine At.fn (r := 0) Go.Proofs.Try.func59 rfl (by kernel_rfl) rfl rfl (by kernel_rfl) ?_
  show At Go.Proofs.Try.prog Go.Proofs.Try.f59 0 0 ⟨[(0, .one (.c (.d (.int .i64 n_))))], [], [], 0⟩ _
  refine At.step hm ht ⟨[], [], [], [0], []⟩ 1 ⟨[(0, .one (.c (.d (.int .i64 n_))))], [], [], 0⟩ [] (by kernel_rfl) trivial ?_
  rcases iteS h with ⟨b12_e0, h⟩ | ⟨b12_e0, h⟩
  · refine At.step hm ht ⟨[], [true], [], [], []⟩ 2 ⟨[], [], [], 0⟩ [(decide ((n_ : Int) < 0)) = true] (by kernel_rfl) ⟨b12_e0, trivial⟩ ?_
    have h := Option.some.inj h
    subst h
    exact At.fin hm ht ⟨[], [], [], [2], []⟩ [] (by kernel_rfl) trivial
  · refine At.step hm ht ⟨[], [false], [], [0], []⟩ 3 ⟨[(0, .one (.c (.d (.int .i64 n_))))], [], [], 0⟩ [(decide ((n_ : Int) < 0)) = false] (by kernel_rfl) ⟨b12_e0, trivial⟩ ?_
    rcases iteS h with ⟨b14_e0, h⟩ | ⟨b14_e0, h⟩
    · refine At.step hm ht ⟨[], [true], [], [], []⟩ 4 ⟨[], [], [], 0⟩ [(decide ((n_ : Int) > 4096)) = true] (by kernel_rfl) ⟨b14_e0, trivial⟩ ?_
      have h := Option.some.inj h
      subst h
      exact At.fin hm ht ⟨[], [], [], [2], []⟩ [] (by kernel_rfl) trivial
    · refine At.step hm ht ⟨[], [false], [], [0], []⟩ 5 ⟨[(0, .one (.c (.d (.int .i64 n_))))], [], [], 0⟩ [(decide ((n_ : Int) > 4096)) = false] (by kernel_rfl) ⟨b14_e0, trivial⟩ ?_
      have h := Option.some.inj h
      subst h
      exact At.fin hm ht ⟨[], [], [], [2], []⟩ [] (by kernel_rfl) trivial
/-! brougham/broughamref11.New -/
def f22_broughamref11_New_in (burst : Int) (rate : Int) : Inn := ⟨[.c (.d (.int .i64 burst)), .c (.d (.int .i64 rate))], [], [], 0⟩
def f22_broughamref11_New_out (r : Int × Int × Int) : Out := ⟨.one (.agg [.d (.int .i64 r.1), .d (.int .i64 r.2.1), .d (.int .i64 r.2.2)]), [], [(0, [.d (.int .i64 r.1), .d (.int .i64 r.2.1), .d (.int .i64 r.2.2)])], 1⟩
def f22_broughamref11_New (burst : Int) (rate : Int) : Option (Int × Int × Int) :=
  (f59_broughamref11_Within burst).bind fun r10_0 =>
  (f59_broughamref11_Within rate).bind fun r10_1 =>
  (f59_broughamref11_Within burst).bind fun r10_2 =>
  some (r10_0, r10_1, r10_2)
theorem f22_broughamref11_New_ok (burst : Int) (rate : Int) (r : Int × Int × Int) (h : f22_broughamref11_New burst rate = some r) : FnOK Go.Proofs.Try.prog 22 (f22_broughamref11_New_in burst rate) (f22_broughamref11_New_out r) := by
  unfold f22_broughamref11_New at h
  refine At.fn (r := 0) Go.Proofs.Try.func22 rfl (by kernel_rfl) rfl rfl (by kernel_rfl) ?_
  show At Go.Proofs.Try.prog Go.Proofs.Try.f22 0 0 ⟨[(0, .one (.c (.d (.int .i64 burst)))), (1, .one (.c (.d (.int .i64 rate))))], [], [], 0⟩ _
  refine At.step hm ht ⟨[], [], [], [0, 1, 4], [0]⟩ 1 ⟨[(0, .one (.c (.d (.int .i64 burst)))), (1, .one (.c (.d (.int .i64 rate)))), (4, .one (.c (.ptr 0 0)))], [], [(0, [.d (.int .i64 0), .d (.int .i64 0), .d (.int .i64 0)])], 1⟩ [] (by kernel_rfl) trivial ?_
  obtain ⟨r10_0, cr10_0, h⟩ := bindS h
  obtain ⟨r10_1, cr10_1, h⟩ := bindS h
  obtain ⟨r10_2, cr10_2, h⟩ := bindS h
  have h := Option.some.inj h
  subst h
  exact At.fin hm ht ⟨[(1, .call [] [] (f59_broughamref11_Within_out r10_0)), (3, .call [] [] (f59_broughamref11_Within_out r10_1)), (5, .call [] [] (f59_broughamref11_Within_out r10_2))], [], [], [4], [0]⟩ [FnOK Go.Proofs.Try.prog 59 (f59_broughamref11_Within_in burst) (f59_broughamref11_Within_out r10_0), FnOK Go.Proofs.Try.prog 59 (f59_broughamref11_Within_in rate) (f59_broughamref11_Within_out r10_1), FnOK Go.Proofs.Try.prog 59 (f59_broughamref11_Within_in burst) (f59_broughamref11_Within_out r10_2), 0 + 3 ≤ 3] (by kernel_rfl) ⟨(f59_broughamref11_Within_ok burst r10_0 cr10_0), (f59_broughamref11_Within_ok rate r10_1 cr10_1), (f59_broughamref11_Within_ok burst r10_2 cr10_2), (by decide), trivial⟩
/-! brougham/broughamref11.Take -/
def f23_broughamref11_Take_in (b_0 : Int) (b_1 : Int) (b_2 : Int) : Inn := ⟨[.agg [.d (.int .i64 b_0), .d (.int .i64 b_1), .d (.int .i64 b_2)]], [], [], 0⟩
def f23_broughamref11_Take_out (r : Bool × Int × Int × Int) : Out := ⟨.tup [.agg [.d (.int .i64 r.2.1), .d (.int .i64 r.2.2.1), .d (.int .i64 r.2.2.2)], .c (.d (.bool r.1))], [], [(0, [.d (.int .i64 r.2.1), .d (.int .i64 r.2.2.1), .d (.int .i64 r.2.2.2)])], 1⟩
def f23_broughamref11_Take (b_0 : Int) (b_1 : Int) (b_2 : Int) : Option (Bool × Int × Int × Int) :=
  if ((b_2 : Int) == 0) = true then
    some (false, b_0, b_1, b_2)
  else
    some (true, b_0, b_1, (IntKind.wrap .i64 (b_2 - 1)))
theorem f23_broughamref11_Take_ok (b_0 : Int) (b_1 : Int) (b_2 : Int) (r : Bool × Int × Int × Int) (h : f23_broughamref11_Take b_0 b_1 b_2 = some r) : FnOK Go.Proofs.Try.prog 23 (f23_broughamref11_Take_in b_0 b_1 b_2) (f23_broughamref11_Take_out r) := by
  unfold f23_broughamref11_Take at h
  refine At.fn (r := 0) Go.Proofs.Try.func23 rfl (by kernel_rfl) rfl rfl (by kernel_rfl) ?_
  show At Go.Proofs.Try.prog Go.Proofs.Try.f23 0 0 ⟨[(0, .one (.agg [.d (.int .i64 b_0), .d (.int .i64 b_1), .d (.int .i64 b_2)]))], [], [], 0⟩ _
  refine At.step hm ht ⟨[], [], [], [1, 2], [0, 1]⟩ 1 ⟨[(1, .one (.c (.ptr 0 0))), (2, .one (.c (.ptr 1 0)))], [], [(0, [.d (.int .i64 b_0), .d (.int .i64 b_1), .d (.int .i64 b_2)]), (1, [.d (.int .i64 0), .d (.int .i64 0), .d (.int .i64 0)])], 2⟩ [] (by kernel_rfl) trivial ?_
  rcases iteS h with ⟨b23_e0, h⟩ | ⟨b23_e0, h⟩
  · refine At.step hm ht ⟨[], [true], [], [1, 2], [0, 1]⟩ 2 ⟨[(1, .one (.c (.ptr 0 0))), (2, .one (.c (.ptr 1 0)))], [], [(0, [.d (.int .i64 b_0), .d (.int .i64 b_1), .d (.int .i64 b_2)]), (1, [.d (.int .i64 0), .d (.int .i64 0), .d (.int .i64 0)])], 2⟩ [((b_2 : Int) == 0) = true] (by kernel_rfl) ⟨b23_e0, trivial⟩ ?_
    have h := Option.some.inj h
    subst h
    exact At.fin hm ht ⟨[], [], [], [2, 3], [1]⟩ [0 + 3 ≤ 3] (by kernel_rfl) ⟨(by decide), trivial⟩
  · refine At.step hm ht ⟨[], [false], [], [1, 2], [0, 1]⟩ 3 ⟨[(1, .one (.c (.ptr 0 0))), (2, .one (.c (.ptr 1 0)))], [], [(0, [.d (.int .i64 b_0), .d (.int .i64 b_1), .d (.int .i64 b_2)]), (1, [.d (.int .i64 0), .d (.int .i64 0), .d (.int .i64 0)])], 2⟩ [((b_2 : Int) == 0) = false] (by kernel_rfl) ⟨b23_e0, trivial⟩ ?_
    refine At.step hm ht ⟨[], [], [], [1, 2], [0, 1]⟩ 4 ⟨[(1, .one (.c (.ptr 0 0))), (2, .one (.c (.ptr 1 0)))], [], [(0, [.d (.int .i64 b_0), .d (.int .i64 b_1), .d (.int .i64 (IntKind.wrap .i64 (b_2 - 1)))]), (1, [.d (.int .i64 0), .d (.int .i64 0), .d (.int .i64 0)])], 2⟩ [2 + 1 ≤ 3] (by kernel_rfl) ⟨(by decide), trivial⟩ ?_
    have h := Option.some.inj h
    subst h
    exact At.fin hm ht ⟨[], [], [], [2, 3], [1]⟩ [0 + 3 ≤ 3] (by kernel_rfl) ⟨(by decide), trivial⟩
/-! (*brougham/bucket.Bucket).Take -/
def f24_bucket_Bucket_Take_in (b_0 : Int) (b_1 : Int) (b_2 : Int) : Inn := ⟨[.c (.ptr 0 0)], [], [(0, [.d (.int .i64 b_0), .d (.int .i64 b_1), .d (.int .i64 b_2)])], 1⟩
def f24_bucket_Bucket_Take_out (r : Bool × Int × Int × Int) : Out := ⟨.one (.c (.d (.bool r.1))), [], [(0, [.d (.int .i64 r.2.1), .d (.int .i64 r.2.2.1), .d (.int .i64 r.2.2.2)])], 1⟩
def f24_bucket_Bucket_Take (b_0 : Int) (b_1 : Int) (b_2 : Int) : Option (Bool × Int × Int × Int) :=
  if ((b_2 : Int) == 0) = true then
    some (false, b_0, b_1, b_2)
  else
    some (true, b_0, b_1, (IntKind.wrap .i64 (b_2 - 1)))
theorem f24_bucket_Bucket_Take_ok (b_0 : Int) (b_1 : Int) (b_2 : Int) (r : Bool × Int × Int × Int) (h : f24_bucket_Bucket_Take b_0 b_1 b_2 = some r) : FnOK Go.Proofs.Try.prog 24 (f24_bucket_Bucket_Take_in b_0 b_1 b_2) (f24_bucket_Bucket_Take_out r) := by
  unfold f24_bucket_Bucket_Take at h
  refine At.fn (r := 0) Go.Proofs.Try.func24 rfl (by kernel_rfl) rfl rfl (by kernel_rfl) ?_
  show At Go.Proofs.Try.prog Go.Proofs.Try.f24 1 0 ⟨[(0, .one (.c (.ptr 0 0)))], [], [(0, [.d (.int .i64 b_0), .d (.int .i64 b_1), .d (.int .i64 b_2)])], 1⟩ _
  refine At.step hm ht ⟨[], [], [], [0], [0]⟩ 1 ⟨[(0, .one (.c (.ptr 0 0)))], [], [(0, [.d (.int .i64 b_0), .d (.int .i64 b_1), .d (.int .i64 b_2)])], 1⟩ [] (by kernel_rfl) trivial ?_
  rcases iteS h with ⟨b29_e0, h⟩ | ⟨b29_e0, h⟩
  · refine At.step hm ht ⟨[], [true], [], [], [0]⟩ 2 ⟨[], [], [(0, [.d (.int .i64 b_0), .d (.int .i64 b_1), .d (.int .i64 b_2)])], 1⟩ [((b_2 : Int) == 0) = true] (by kernel_rfl) ⟨b29_e0, trivial⟩ ?_
    have h := Option.some.inj h
    subst h
    exact At.fin hm ht ⟨[], [], [], [2], [0]⟩ [] (by kernel_rfl) trivial
  · refine At.step hm ht ⟨[], [false], [], [0], [0]⟩ 3 ⟨[(0, .one (.c (.ptr 0 0)))], [], [(0, [.d (.int .i64 b_0), .d (.int .i64 b_1), .d (.int .i64 b_2)])], 1⟩ [((b_2 : Int) == 0) = false] (by kernel_rfl) ⟨b29_e0, trivial⟩ ?_
    refine At.step hm ht ⟨[], [], [], [], [0]⟩ 4 ⟨[], [], [(0, [.d (.int .i64 b_0), .d (.int .i64 b_1), .d (.int .i64 (IntKind.wrap .i64 (b_2 - 1)))])], 1⟩ [2 + 1 ≤ 3] (by kernel_rfl) ⟨(by decide), trivial⟩ ?_
    have h := Option.some.inj h
    subst h
    exact At.fin hm ht ⟨[], [], [], [2], [0]⟩ [] (by kernel_rfl) trivial
/-! (*brougham/bucket.Bucket).Left -/
def f27_bucket_Bucket_Left_in (b_0 : Int) (b_1 : Int) (b_2 : Int) : Inn := ⟨[.c (.ptr 0 0)], [], [(0, [.d (.int .i64 b_0), .d (.int .i64 b_1), .d (.int .i64 b_2)])], 1⟩
def f27_bucket_Bucket_Left_out (r : Int × Int × Int × Int) : Out := ⟨.one (.c (.d (.int .i64 r.1))), [], [(0, [.d (.int .i64 r.2.1), .d (.int .i64 r.2.2.1), .d (.int .i64 r.2.2.2)])], 1⟩
def f27_bucket_Bucket_Left (b_0 : Int) (b_1 : Int) (b_2 : Int) : Option (Int × Int × Int × Int) :=
  some (b_2, b_0, b_1, b_2)
theorem f27_bucket_Bucket_Left_ok (b_0 : Int) (b_1 : Int) (b_2 : Int) (r : Int × Int × Int × Int) (h : f27_bucket_Bucket_Left b_0 b_1 b_2 = some r) : FnOK Go.Proofs.Try.prog 27 (f27_bucket_Bucket_Left_in b_0 b_1 b_2) (f27_bucket_Bucket_Left_out r) := by
  unfold f27_bucket_Bucket_Left at h
  refine At.fn (r := 0) Go.Proofs.Try.func27 rfl (by kernel_rfl) rfl rfl (by kernel_rfl) ?_
  show At Go.Proofs.Try.prog Go.Proofs.Try.f27 1 0 ⟨[(0, .one (.c (.ptr 0 0)))], [], [(0, [.d (.int .i64 b_0), .d (.int .i64 b_1), .d (.int .i64 b_2)])], 1⟩ _
  refine At.step hm ht ⟨[], [], [], [0], [0]⟩ 1 ⟨[(0, .one (.c (.ptr 0 0)))], [], [(0, [.d (.int .i64 b_0), .d (.int .i64 b_1), .d (.int .i64 b_2)])], 1⟩ [] (by kernel_rfl) trivial ?_
  have h := Option.some.inj h
  subst h
  exact At.fin hm ht ⟨[], [], [], [2], [0]⟩ [] (by kernel_rfl) trivial
/-! (*brougham/bucket.Bucket).Tick -/
def f25_bucket_Bucket_Tick_in (n_ : Int) (b_0 : Int) (b_1 : Int) (b_2 : Int) : Inn := ⟨[.c (.ptr 0 0), .c (.d (.int .i64 n_))], [], [(0, [.d (.int .i64 b_0), .d (.int .i64 b_1), .d (.int .i64 b_2)])], 1⟩
def f25_bucket_Bucket_Tick_out (r : Int × Int × Int) : Out := ⟨.tup [], [], [(0, [.d (.int .i64 r.1), .d (.int .i64 r.2.1), .d (.int .i64 r.2.2)])], 1⟩
def f25_bucket_Bucket_Tick (n_ : Int) (b_0 : Int) (b_1 : Int) (b_2 : Int) : Option (Int × Int × Int) :=
  some (b_0, b_1, (if b_0 < (IntKind.wrap .i64 (b_2 + (IntKind.wrap .i64 ((if 4096 < (if n_ < 0 then 0 else n_) then 4096 else (if n_ < 0 then 0 else n_)) * b_1)))) then b_0 else (IntKind.wrap .i64 (b_2 + (IntKind.wrap .i64 ((if 4096 < (if n_ < 0 then 0 else n_) then 4096 else (if n_ < 0 then 0 else n_)) * b_1))))))
theorem f25_bucket_Bucket_Tick_ok (n_ : Int) (b_0 : Int) (b_1 : Int) (b_2 : Int) (r : Int × Int × Int) (h : f25_bucket_Bucket_Tick n_ b_0 b_1 b_2 = some r) : FnOK Go.Proofs.Try.prog 25 (f25_bucket_Bucket_Tick_in n_ b_0 b_1 b_2) (f25_bucket_Bucket_Tick_out r) := by
  unfold f25_bucket_Bucket_Tick at h
  refine At.fn (r := 0) Go.Proofs.Try.func25 rfl (by kernel_rfl) rfl rfl (by kernel_rfl) ?_
  show At Go.Proofs.Try.prog Go.Proofs.Try.f25 1 0 ⟨[(0, .one (.c (.ptr 0 0))), (1, .one (.c (.d (.int .i64 n_))))], [], [(0, [.d (.int .i64 b_0), .d (.int .i64 b_1), .d (.int .i64 b_2)])], 1⟩ _
  refine At.step hm ht ⟨[], [], [], [0, 1], [0]⟩ 1 ⟨[(0, .one (.c (.ptr 0 0))), (1, .one (.c (.d (.int .i64 (if 4096 < (if n_ < 0 then 0 else n_) then 4096 else (if n_ < 0 then 0 else n_))))))], [], [(0, [.d (.int .i64 b_0), .d (.int .i64 b_1), .d (.int .i64 b_2)])], 1⟩ [] (by kernel_rfl) trivial ?_
  have h := Option.some.inj h
  subst h
  exact At.fin hm ht ⟨[], [], [], [], [0]⟩ [2 + 1 ≤ 3] (by kernel_rfl) ⟨(by decide), trivial⟩
/-! brougham/broughamref11.Tick -/
def f26_broughamref11_Tick_in (b_0 : Int) (b_1 : Int) (b_2 : Int) (n_ : Int) : Inn := ⟨[.agg [.d (.int .i64 b_0), .d (.int .i64 b_1), .d (.int .i64 b_2)], .c (.d (.int .i64 n_))], [], [], 0⟩
def f26_broughamref11_Tick_out (r : Int × Int × Int) : Out := ⟨.one (.agg [.d (.int .i64 r.1), .d (.int .i64 r.2.1), .d (.int .i64 r.2.2)]), [], [(0, [.d (.int .i64 r.1), .d (.int .i64 r.2.1), .d (.int .i64 r.2.2)])], 1⟩
def f26_broughamref11_Tick (b_0 : Int) (b_1 : Int) (b_2 : Int) (n_ : Int) : Option (Int × Int × Int) :=
  (f59_broughamref11_Within n_).bind fun r44_0 =>
  if (decide (((IntKind.wrap .i64 (b_2 + (IntKind.wrap .i64 (r44_0 * b_1)))) : Int) > b_0)) = true then
    some (b_0, b_1, b_0)
  else
    some (b_0, b_1, (IntKind.wrap .i64 (b_2 + (IntKind.wrap .i64 (r44_0 * b_1)))))
theorem f26_broughamref11_Tick_ok (b_0 : Int) (b_1 : Int) (b_2 : Int) (n_ : Int) (r : Int × Int × Int) (h : f26_broughamref11_Tick b_0 b_1 b_2 n_ = some r) : FnOK Go.Proofs.Try.prog 26 (f26_broughamref11_Tick_in b_0 b_1 b_2 n_) (f26_broughamref11_Tick_out r) := by
  unfold f26_broughamref11_Tick at h
  refine At.fn (r := 0) Go.Proofs.Try.func26 rfl (by kernel_rfl) rfl rfl (by kernel_rfl) ?_
  show At Go.Proofs.Try.prog Go.Proofs.Try.f26 0 0 ⟨[(0, .one (.agg [.d (.int .i64 b_0), .d (.int .i64 b_1), .d (.int .i64 b_2)])), (1, .one (.c (.d (.int .i64 n_))))], [], [], 0⟩ _
  refine At.step hm ht ⟨[], [], [], [1, 2, 4], [0, 1]⟩ 1 ⟨[(1, .one (.c (.d (.int .i64 n_)))), (2, .one (.c (.ptr 0 0))), (4, .one (.c (.ptr 1 0)))], [], [(0, [.d (.int .i64 b_0), .d (.int .i64 b_1), .d (.int .i64 b_2)]), (1, [.d (.int .i64 0), .d (.int .i64 0), .d (.int .i64 0)])], 2⟩ [] (by kernel_rfl) trivial ?_
  obtain ⟨r44_0, cr44_0, h⟩ := bindS h
  refine At.step hm ht ⟨[(3, .call [] [] (f59_broughamref11_Within_out r44_0))], [], [], [2, 4], [0, 1]⟩ 2 ⟨[(2, .one (.c (.ptr 0 0))), (4, .one (.c (.ptr 1 0)))], [], [(0, [.d (.int .i64 b_0), .d (.int .i64 b_1), .d (.int .i64 (IntKind.wrap .i64 (b_2 + (IntKind.wrap .i64 (r44_0 * b_1)))))]), (1, [.d (.int .i64 0), .d (.int .i64 0), .d (.int .i64 0)])], 2⟩ [FnOK Go.Proofs.Try.prog 59 (f59_broughamref11_Within_in n_) (f59_broughamref11_Within_out r44_0), 2 + 1 ≤ 3] (by kernel_rfl) ⟨(f59_broughamref11_Within_ok n_ r44_0 cr44_0), (by decide), trivial⟩ ?_
  rcases iteS h with ⟨b45_e0, h⟩ | ⟨b45_e0, h⟩
  · refine At.step hm ht ⟨[], [true], [], [2, 4], [0, 1]⟩ 3 ⟨[(2, .one (.c (.ptr 0 0))), (4, .one (.c (.ptr 1 0)))], [], [(0, [.d (.int .i64 b_0), .d (.int .i64 b_1), .d (.int .i64 (IntKind.wrap .i64 (b_2 + (IntKind.wrap .i64 (r44_0 * b_1)))))]), (1, [.d (.int .i64 0), .d (.int .i64 0), .d (.int .i64 0)])], 2⟩ [(decide (((IntKind.wrap .i64 (b_2 + (IntKind.wrap .i64 (r44_0 * b_1)))) : Int) > b_0)) = true] (by kernel_rfl) ⟨b45_e0, trivial⟩ ?_
    refine At.step hm ht ⟨[], [], [], [2, 4], [0, 1]⟩ 4 ⟨[(2, .one (.c (.ptr 0 0))), (4, .one (.c (.ptr 1 0)))], [], [(0, [.d (.int .i64 b_0), .d (.int .i64 b_1), .d (.int .i64 b_0)]), (1, [.d (.int .i64 0), .d (.int .i64 0), .d (.int .i64 0)])], 2⟩ [2 + 1 ≤ 3] (by kernel_rfl) ⟨(by decide), trivial⟩ ?_
    have h := Option.some.inj h
    subst h
    exact At.fin hm ht ⟨[], [], [], [4], [1]⟩ [0 + 3 ≤ 3] (by kernel_rfl) ⟨(by decide), trivial⟩
  · refine At.step hm ht ⟨[], [false], [], [2, 4], [0, 1]⟩ 4 ⟨[(2, .one (.c (.ptr 0 0))), (4, .one (.c (.ptr 1 0)))], [], [(0, [.d (.int .i64 b_0), .d (.int .i64 b_1), .d (.int .i64 (IntKind.wrap .i64 (b_2 + (IntKind.wrap .i64 (r44_0 * b_1)))))]), (1, [.d (.int .i64 0), .d (.int .i64 0), .d (.int .i64 0)])], 2⟩ [(decide (((IntKind.wrap .i64 (b_2 + (IntKind.wrap .i64 (r44_0 * b_1)))) : Int) > b_0)) = false] (by kernel_rfl) ⟨b45_e0, trivial⟩ ?_
    have h := Option.some.inj h
    subst h
    exact At.fin hm ht ⟨[], [], [], [4], [1]⟩ [0 + 3 ≤ 3] (by kernel_rfl) ⟨(by decide), trivial⟩
/-! brougham/broughamlaw11.alive -/
def f28_broughamlaw11_alive_in : Inn := ⟨[], [], [], 0⟩
def f28_broughamlaw11_alive_out (r : Bool) : Out := ⟨.one (.c (.d (.bool r))), [], [], 0⟩
def f28_broughamlaw11_alive : Option (Bool) :=
  (f21_bucket_New 2 1).bind fun r57_0 =>
  (f24_bucket_Bucket_Take r57_0.1 r57_0.2.1 r57_0.2.2).bind fun r59_0 =>
  (f24_bucket_Bucket_Take r59_0.2.1 r59_0.2.2.1 r59_0.2.2.2).bind fun r59_1 =>
  (f24_bucket_Bucket_Take r59_1.2.1 r59_1.2.2.1 r59_1.2.2.2).bind fun r59_2 =>
  (f25_bucket_Bucket_Tick 1 r59_2.2.1 r59_2.2.2.1 r59_2.2.2.2).bind fun r60_0 =>
  if r59_0.1 = true then
    if r59_1.1 = true then
      if (!r59_2.1) = true then
        (f27_bucket_Bucket_Left r60_0.1 r60_0.2.1 r60_0.2.2).bind fun r61_0 =>
        if ((r61_0.1 : Int) == 1) = true then
          (f24_bucket_Bucket_Take r61_0.2.1 r61_0.2.2.1 r61_0.2.2.2).bind fun r61_1 =>
          some r61_1.1
        else
          some false
      else
        some false
    else
      some false
  else
    some false
theorem f28_broughamlaw11_alive_ok (r : Bool) (h : f28_broughamlaw11_alive = some r) : FnOK Go.Proofs.Try.prog 28 (f28_broughamlaw11_alive_in) (f28_broughamlaw11_alive_out r) := by
  unfold f28_broughamlaw11_alive at h
  refine At.fn (r := 0) Go.Proofs.Try.func28 rfl (by kernel_rfl) rfl rfl (by kernel_rfl) ?_
  show At Go.Proofs.Try.prog Go.Proofs.Try.f28 0 0 ⟨[], [], [], 0⟩ _
  refine At.step hm ht ⟨[], [], [], [], []⟩ 1 ⟨[], [], [], 0⟩ [] (by kernel_rfl) trivial ?_
  obtain ⟨r57_0, cr57_0, h⟩ := bindS h
  refine At.step hm ht ⟨[(0, .call [] [] (f21_bucket_New_out r57_0))], [], [], [1], [0]⟩ 2 ⟨[(1, .one (.c (.ptr 0 0)))], [], [(0, [.d (.int .i64 r57_0.1), .d (.int .i64 r57_0.2.1), .d (.int .i64 r57_0.2.2)])], 1⟩ [FnOK Go.Proofs.Try.prog 21 (f21_bucket_New_in 2 1) (f21_bucket_New_out r57_0)] (by kernel_rfl) ⟨(f21_bucket_New_ok 2 1 r57_0 cr57_0), trivial⟩ ?_
  refine At.step hm ht ⟨[], [false], [], [1], [0]⟩ 4 ⟨[(1, .one (.c (.ptr 0 0)))], [], [(0, [.d (.int .i64 r57_0.1), .d (.int .i64 r57_0.2.1), .d (.int .i64 r57_0.2.2)])], 1⟩ [false = false] (by kernel_rfl) ⟨rfl, trivial⟩ ?_
  obtain ⟨r59_0, cr59_0, h⟩ := bindS h
  obtain ⟨r59_1, cr59_1, h⟩ := bindS h
  obtain ⟨r59_2, cr59_2, h⟩ := bindS h
  refine At.step hm ht ⟨[(1, .call [0] [] (f24_bucket_Bucket_Take_out r59_0)), (3, .call [0] [] (f24_bucket_Bucket_Take_out r59_1)), (5, .call [0] [] (f24_bucket_Bucket_Take_out r59_2))], [], [], [1, 2, 3, 4], [0]⟩ 5 ⟨[(1, .one (.c (.ptr 0 0))), (2, .one (.c (.d (.bool r59_0.1)))), (3, .one (.c (.d (.bool r59_1.1)))), (4, .one (.c (.d (.bool r59_2.1))))], [], [(0, [.d (.int .i64 r59_2.2.1), .d (.int .i64 r59_2.2.2.1), .d (.int .i64 r59_2.2.2.2)])], 1⟩ [FnOK Go.Proofs.Try.prog 24 (f24_bucket_Bucket_Take_in r57_0.1 r57_0.2.1 r57_0.2.2) (f24_bucket_Bucket_Take_out r59_0), FnOK Go.Proofs.Try.prog 24 (f24_bucket_Bucket_Take_in r59_0.2.1 r59_0.2.2.1 r59_0.2.2.2) (f24_bucket_Bucket_Take_out r59_1), FnOK Go.Proofs.Try.prog 24 (f24_bucket_Bucket_Take_in r59_1.2.1 r59_1.2.2.1 r59_1.2.2.2) (f24_bucket_Bucket_Take_out r59_2)] (by kernel_rfl) ⟨(f24_bucket_Bucket_Take_ok r57_0.1 r57_0.2.1 r57_0.2.2 r59_0 cr59_0), (f24_bucket_Bucket_Take_ok r59_0.2.1 r59_0.2.2.1 r59_0.2.2.2 r59_1 cr59_1), (f24_bucket_Bucket_Take_ok r59_1.2.1 r59_1.2.2.1 r59_1.2.2.2 r59_2 cr59_2), trivial⟩ ?_
  obtain ⟨r60_0, cr60_0, h⟩ := bindS h
  refine At.step hm ht ⟨[(1, .call [0] [] (f25_bucket_Bucket_Tick_out r60_0))], [], [], [1, 2, 3, 4], [0]⟩ 6 ⟨[(1, .one (.c (.ptr 0 0))), (2, .one (.c (.d (.bool r59_0.1)))), (3, .one (.c (.d (.bool r59_1.1)))), (4, .one (.c (.d (.bool r59_2.1))))], [], [(0, [.d (.int .i64 r60_0.1), .d (.int .i64 r60_0.2.1), .d (.int .i64 r60_0.2.2)])], 1⟩ [FnOK Go.Proofs.Try.prog 25 (f25_bucket_Bucket_Tick_in 1 r59_2.2.1 r59_2.2.2.1 r59_2.2.2.2) (f25_bucket_Bucket_Tick_out r60_0)] (by kernel_rfl) ⟨(f25_bucket_Bucket_Tick_ok 1 r59_2.2.1 r59_2.2.2.1 r59_2.2.2.2 r60_0 cr60_0), trivial⟩ ?_
  rcases iteS h with ⟨b61_1, h⟩ | ⟨b61_1, h⟩
  · rcases iteS h with ⟨b61_4, h⟩ | ⟨b61_4, h⟩
    · rcases iteS h with ⟨b61_8, h⟩ | ⟨b61_8, h⟩
      · obtain ⟨r61_0, cr61_0, h⟩ := bindS h
        rcases iteS h with ⟨b61_13, h⟩ | ⟨b61_13, h⟩
        · obtain ⟨r61_1, cr61_1, h⟩ := bindS h
          have h := Option.some.inj h
          subst h
          exact At.fin hm ht ⟨[(1, .b true), (4, .b true), (8, .b true), (10, .call [0] [] (f27_bucket_Bucket_Left_out r61_0)), (13, .b true), (15, .call [0] [] (f24_bucket_Bucket_Take_out r61_1))], [], [], [0], []⟩ [r59_0.1 = true, r59_1.1 = true, (!r59_2.1) = true, FnOK Go.Proofs.Try.prog 27 (f27_bucket_Bucket_Left_in r60_0.1 r60_0.2.1 r60_0.2.2) (f27_bucket_Bucket_Left_out r61_0), ((r61_0.1 : Int) == 1) = true, FnOK Go.Proofs.Try.prog 24 (f24_bucket_Bucket_Take_in r61_0.2.1 r61_0.2.2.1 r61_0.2.2.2) (f24_bucket_Bucket_Take_out r61_1)] (by kernel_rfl) ⟨b61_1, b61_4, b61_8, (f27_bucket_Bucket_Left_ok r60_0.1 r60_0.2.1 r60_0.2.2 r61_0 cr61_0), b61_13, (f24_bucket_Bucket_Take_ok r61_0.2.1 r61_0.2.2.1 r61_0.2.2.2 r61_1 cr61_1), trivial⟩
        · have h := Option.some.inj h
          subst h
          exact At.fin hm ht ⟨[(1, .b true), (4, .b true), (8, .b true), (10, .call [0] [] (f27_bucket_Bucket_Left_out r61_0)), (13, .b false)], [], [], [0], []⟩ [r59_0.1 = true, r59_1.1 = true, (!r59_2.1) = true, FnOK Go.Proofs.Try.prog 27 (f27_bucket_Bucket_Left_in r60_0.1 r60_0.2.1 r60_0.2.2) (f27_bucket_Bucket_Left_out r61_0), ((r61_0.1 : Int) == 1) = false] (by kernel_rfl) ⟨b61_1, b61_4, b61_8, (f27_bucket_Bucket_Left_ok r60_0.1 r60_0.2.1 r60_0.2.2 r61_0 cr61_0), b61_13, trivial⟩
      · have h := Option.some.inj h
        subst h
        exact At.fin hm ht ⟨[(1, .b true), (4, .b true), (8, .b false)], [], [], [0], []⟩ [r59_0.1 = true, r59_1.1 = true, (!r59_2.1) = false] (by kernel_rfl) ⟨b61_1, b61_4, b61_8, trivial⟩
    · have h := Option.some.inj h
      subst h
      exact At.fin hm ht ⟨[(1, .b true), (4, .b false)], [], [], [0], []⟩ [r59_0.1 = true, r59_1.1 = false] (by kernel_rfl) ⟨b61_1, b61_4, trivial⟩
  · have h := Option.some.inj h
    subst h
    exact At.fin hm ht ⟨[(1, .b false)], [], [], [0], []⟩ [r59_0.1 = false] (by kernel_rfl) ⟨b61_1, trivial⟩
/-! brougham/broughamlaw11.BucketPlays -/
def f4_broughamlaw11_BucketPlays_in (burst : Int) (rate : Int) (l : List Int) : Inn := ⟨[.c (.d (.int .i64 burst)), .c (.d (.int .i64 rate)), .c (.d (.sl (.int .i64) l))], [], [], 0⟩
def f4_broughamlaw11_BucketPlays_out (r : Bool) : Out := ⟨.one (.c (.d (.bool r))), [], [], 0⟩
def f4_broughamlaw11_BucketPlays_L6 : Nat → (List Int) → Int → Int → Int → Int → Int → Int → Int → Option ((Bool) ⊕ (Unit))
  | 0, _, _, _, _, _, _, _, _ => none
  | n + 1, l, i, b_0, b_1, b_2, x_0, x_1, x_2 =>
    if (decide ((i : Int) < ((l.length : Nat) : Int))) = true then
      if (0 : Int) ≤ i ∧ i < (((l).length : Nat) : Int) then
      if (decide (((l.getD i.toNat 0) : Int) < 0)) = true then
        (f23_broughamref11_Take x_0 x_1 x_2).bind fun r21_0 =>
        (f24_bucket_Bucket_Take b_0 b_1 b_2).bind fun r27_0 =>
        if (!(r27_0.1 == r21_0.1)) = true then
          some (.inl false)
        else
          (f27_bucket_Bucket_Left r27_0.2.1 r27_0.2.2.1 r27_0.2.2.2).bind fun r34_0 =>
          if ((r34_0.1 : Int) != r21_0.2.2.2) = true then
            some (.inl false)
          else
            f4_broughamlaw11_BucketPlays_L6 n l (IntKind.wrap .i64 (i + 1)) r34_0.2.1 r34_0.2.2.1 r34_0.2.2.2 r21_0.2.1 r21_0.2.2.1 r21_0.2.2.2
      else
        if (0 : Int) ≤ i ∧ i < (((l).length : Nat) : Int) then
        (f25_bucket_Bucket_Tick (l.getD i.toNat 0) b_0 b_1 b_2).bind fun r39_1 =>
        if (0 : Int) ≤ i ∧ i < (((l).length : Nat) : Int) then
        (f26_broughamref11_Tick x_0 x_1 x_2 (l.getD i.toNat 0)).bind fun r42_1 =>
        (f27_bucket_Bucket_Left r39_1.1 r39_1.2.1 r39_1.2.2).bind fun r49_0 =>
        if ((r49_0.1 : Int) != r42_1.2.2) = true then
          some (.inl false)
        else
          f4_broughamlaw11_BucketPlays_L6 n l (IntKind.wrap .i64 (i + 1)) r49_0.2.1 r49_0.2.2.1 r49_0.2.2.2 r42_1.1 r42_1.2.1 r42_1.2.2
        else none
        else none
      else none
    else
      some (.inr ())
def f4_broughamlaw11_BucketPlays_L6_k (w : (Bool) ⊕ (Unit)) (o : Out) : Prop := match w with
  | .inl e => o = f4_broughamlaw11_BucketPlays_out e
  | .inr e => At Go.Proofs.Try.prog Go.Proofs.Try.f4 0 17 ⟨[], [], [], 0⟩ o
theorem f4_broughamlaw11_BucketPlays_L6_ok (n : Nat) : ∀ (l : List Int) (i : Int) (b_0 : Int) (b_1 : Int) (b_2 : Int) (x_0 : Int) (x_1 : Int) (x_2 : Int) (w : (Bool) ⊕ (Unit)) (h : f4_broughamlaw11_BucketPlays_L6 n l i b_0 b_1 b_2 x_0 x_1 x_2 = some w) (o : Out) (hk : f4_broughamlaw11_BucketPlays_L6_k w o), At Go.Proofs.Try.prog Go.Proofs.Try.f4 0 6 ⟨[(2, .one (.c (.d (.sl (.int .i64) l)))), (7, .one (.c (.ptr 0 0))), (8, .one (.c (.ptr 1 0))), (9, .one (.c (.d (.int .i64 i))))], [], [(0, [.d (.int .i64 b_0), .d (.int .i64 b_1), .d (.int .i64 b_2)]), (1, [.d (.int .i64 x_0), .d (.int .i64 x_1), .d (.int .i64 x_2)])], 2⟩ o := by
  induction n with
  | zero => intro l i b_0 b_1 b_2 x_0 x_1 x_2 w h; rw [f4_broughamlaw11_BucketPlays_L6] at h; cases h
  | succ n ih =>
    intro l i b_0 b_1 b_2 x_0 x_1 x_2 w h o hk
    rw [f4_broughamlaw11_BucketPlays_L6] at h
    rcases iteS h with ⟨b18_e0, h⟩ | ⟨b18_e0, h⟩
    · refine At.step hm ht ⟨[], [true], [], [2, 7, 8, 9], [0, 1]⟩ 8 ⟨[(2, .one (.c (.d (.sl (.int .i64) l)))), (7, .one (.c (.ptr 0 0))), (8, .one (.c (.ptr 1 0))), (9, .one (.c (.d (.int .i64 i))))], [], [(0, [.d (.int .i64 b_0), .d (.int .i64 b_1), .d (.int .i64 b_2)]), (1, [.d (.int .i64 x_0), .d (.int .i64 x_1), .d (.int .i64 x_2)])], 2⟩ [(decide ((i : Int) < ((l.length : Nat) : Int))) = true] (by kernel_rfl) ⟨b18_e0, trivial⟩ ?_
      obtain ⟨g19_0, h⟩ := ifS h
      rcases iteS h with ⟨b19_e0, h⟩ | ⟨b19_e0, h⟩
      · refine At.step hm ht ⟨[], [true], [], [2, 7, 8, 9], [0, 1]⟩ 9 ⟨[(2, .one (.c (.d (.sl (.int .i64) l)))), (7, .one (.c (.ptr 0 0))), (8, .one (.c (.ptr 1 0))), (9, .one (.c (.d (.int .i64 i))))], [], [(0, [.d (.int .i64 b_0), .d (.int .i64 b_1), .d (.int .i64 b_2)]), (1, [.d (.int .i64 x_0), .d (.int .i64 x_1), .d (.int .i64 x_2)])], 2⟩ [(0 : Int) ≤ i ∧ i < (((l).length : Nat) : Int), (decide (((l.getD i.toNat 0) : Int) < 0)) = true] (by kernel_rfl) ⟨g19_0, b19_e0, trivial⟩ ?_
        refine At.step hm ht ⟨[], [], [], [2, 7, 8, 9], [0, 1]⟩ 10 ⟨[(2, .one (.c (.d (.sl (.int .i64) l)))), (7, .one (.c (.ptr 0 0))), (8, .one (.c (.ptr 1 0))), (9, .one (.c (.d (.int .i64 i))))], [], [(0, [.d (.int .i64 b_0), .d (.int .i64 b_1), .d (.int .i64 b_2)]), (1, [.d (.int .i64 x_0), .d (.int .i64 x_1), .d (.int .i64 x_2)])], 2⟩ [] (by kernel_rfl) trivial ?_
        obtain ⟨r21_0, cr21_0, h⟩ := bindS h
        refine At.step hm ht ⟨[(1, .call [] [] (f23_broughamref11_Take_out r21_0))], [], [], [2, 7, 8, 9, 10], [0, 1]⟩ 11 ⟨[(2, .one (.c (.d (.sl (.int .i64) l)))), (7, .one (.c (.ptr 0 0))), (8, .one (.c (.ptr 1 0))), (9, .one (.c (.d (.int .i64 i)))), (10, .one (.c (.d (.bool r21_0.1))))], [], [(0, [.d (.int .i64 b_0), .d (.int .i64 b_1), .d (.int .i64 b_2)]), (1, [.d (.int .i64 r21_0.2.1), .d (.int .i64 r21_0.2.2.1), .d (.int .i64 r21_0.2.2.2)])], 2⟩ [FnOK Go.Proofs.Try.prog 23 (f23_broughamref11_Take_in x_0 x_1 x_2) (f23_broughamref11_Take_out r21_0), 0 + 3 ≤ 3] (by kernel_rfl) ⟨(f23_broughamref11_Take_ok x_0 x_1 x_2 r21_0 cr21_0), (by decide), trivial⟩ ?_
        obtain ⟨r27_0, cr27_0, h⟩ := bindS h
        rcases iteS h with ⟨b27_e0, h⟩ | ⟨b27_e0, h⟩
        · refine At.step hm ht ⟨[(1, .call [0] [] (f24_bucket_Bucket_Take_out r27_0))], [true], [], [], []⟩ 12 ⟨[], [], [], 0⟩ [FnOK Go.Proofs.Try.prog 24 (f24_bucket_Bucket_Take_in b_0 b_1 b_2) (f24_bucket_Bucket_Take_out r27_0), (!(r27_0.1 == r21_0.1)) = true] (by kernel_rfl) ⟨(f24_bucket_Bucket_Take_ok b_0 b_1 b_2 r27_0 cr27_0), b27_e0, trivial⟩ ?_
          have h := Option.some.inj h
          subst h
          have hk : o = f4_broughamlaw11_BucketPlays_out false := hk
          subst hk
          exact At.fin hm ht ⟨[], [], [], [6], []⟩ [] (by kernel_rfl) trivial
        · refine At.step hm ht ⟨[(1, .call [0] [] (f24_bucket_Bucket_Take_out r27_0))], [false], [], [2, 7, 8, 9], [0, 1]⟩ 15 ⟨[(2, .one (.c (.d (.sl (.int .i64) l)))), (7, .one (.c (.ptr 0 0))), (8, .one (.c (.ptr 1 0))), (9, .one (.c (.d (.int .i64 i))))], [], [(0, [.d (.int .i64 r27_0.2.1), .d (.int .i64 r27_0.2.2.1), .d (.int .i64 r27_0.2.2.2)]), (1, [.d (.int .i64 r21_0.2.1), .d (.int .i64 r21_0.2.2.1), .d (.int .i64 r21_0.2.2.2)])], 2⟩ [FnOK Go.Proofs.Try.prog 24 (f24_bucket_Bucket_Take_in b_0 b_1 b_2) (f24_bucket_Bucket_Take_out r27_0), (!(r27_0.1 == r21_0.1)) = false] (by kernel_rfl) ⟨(f24_bucket_Bucket_Take_ok b_0 b_1 b_2 r27_0 cr27_0), b27_e0, trivial⟩ ?_
          obtain ⟨r34_0, cr34_0, h⟩ := bindS h
          rcases iteS h with ⟨b34_e0, h⟩ | ⟨b34_e0, h⟩
          · refine At.step hm ht ⟨[(1, .call [0] [] (f27_bucket_Bucket_Left_out r34_0))], [true], [], [], []⟩ 16 ⟨[], [], [], 0⟩ [FnOK Go.Proofs.Try.prog 27 (f27_bucket_Bucket_Left_in r27_0.2.1 r27_0.2.2.1 r27_0.2.2.2) (f27_bucket_Bucket_Left_out r34_0), ((r34_0.1 : Int) != r21_0.2.2.2) = true] (by kernel_rfl) ⟨(f27_bucket_Bucket_Left_ok r27_0.2.1 r27_0.2.2.1 r27_0.2.2.2 r34_0 cr34_0), b34_e0, trivial⟩ ?_
            have h := Option.some.inj h
            subst h
            have hk : o = f4_broughamlaw11_BucketPlays_out false := hk
            subst hk
            exact At.fin hm ht ⟨[], [], [], [6], []⟩ [] (by kernel_rfl) trivial
          · refine At.step hm ht ⟨[(1, .call [0] [] (f27_bucket_Bucket_Left_out r34_0))], [false], [], [2, 7, 8, 9], [0, 1]⟩ 7 ⟨[(2, .one (.c (.d (.sl (.int .i64) l)))), (7, .one (.c (.ptr 0 0))), (8, .one (.c (.ptr 1 0))), (9, .one (.c (.d (.int .i64 i))))], [], [(0, [.d (.int .i64 r34_0.2.1), .d (.int .i64 r34_0.2.2.1), .d (.int .i64 r34_0.2.2.2)]), (1, [.d (.int .i64 r21_0.2.1), .d (.int .i64 r21_0.2.2.1), .d (.int .i64 r21_0.2.2.2)])], 2⟩ [FnOK Go.Proofs.Try.prog 27 (f27_bucket_Bucket_Left_in r27_0.2.1 r27_0.2.2.1 r27_0.2.2.2) (f27_bucket_Bucket_Left_out r34_0), ((r34_0.1 : Int) != r21_0.2.2.2) = false] (by kernel_rfl) ⟨(f27_bucket_Bucket_Left_ok r27_0.2.1 r27_0.2.2.1 r27_0.2.2.2 r34_0 cr34_0), b34_e0, trivial⟩ ?_
            refine At.step hm ht ⟨[], [], [], [2, 7, 8, 9], [0, 1]⟩ 6 ⟨[(2, .one (.c (.d (.sl (.int .i64) l)))), (7, .one (.c (.ptr 0 0))), (8, .one (.c (.ptr 1 0))), (9, .one (.c (.d (.int .i64 (IntKind.wrap .i64 (i + 1))))))], [], [(0, [.d (.int .i64 r34_0.2.1), .d (.int .i64 r34_0.2.2.1), .d (.int .i64 r34_0.2.2.2)]), (1, [.d (.int .i64 r21_0.2.1), .d (.int .i64 r21_0.2.2.1), .d (.int .i64 r21_0.2.2.2)])], 2⟩ [] (by kernel_rfl) trivial ?_
            exact ih l (IntKind.wrap .i64 (i + 1)) r34_0.2.1 r34_0.2.2.1 r34_0.2.2.2 r21_0.2.1 r21_0.2.2.1 r21_0.2.2.2 w h o hk
      · refine At.step hm ht ⟨[], [false], [], [2, 7, 8, 9], [0, 1]⟩ 13 ⟨[(2, .one (.c (.d (.sl (.int .i64) l)))), (7, .one (.c (.ptr 0 0))), (8, .one (.c (.ptr 1 0))), (9, .one (.c (.d (.int .i64 i))))], [], [(0, [.d (.int .i64 b_0), .d (.int .i64 b_1), .d (.int .i64 b_2)]), (1, [.d (.int .i64 x_0), .d (.int .i64 x_1), .d (.int .i64 x_2)])], 2⟩ [(0 : Int) ≤ i ∧ i < (((l).length : Nat) : Int), (decide (((l.getD i.toNat 0) : Int) < 0)) = false] (by kernel_rfl) ⟨g19_0, b19_e0, trivial⟩ ?_
        obtain ⟨g39_0, h⟩ := ifS h
        obtain ⟨r39_1, cr39_1, h⟩ := bindS h
        refine At.step hm ht ⟨[(5, .call [0] [] (f25_bucket_Bucket_Tick_out r39_1))], [], [], [2, 7, 8, 9], [0, 1]⟩ 14 ⟨[(2, .one (.c (.d (.sl (.int .i64) l)))), (7, .one (.c (.ptr 0 0))), (8, .one (.c (.ptr 1 0))), (9, .one (.c (.d (.int .i64 i))))], [], [(0, [.d (.int .i64 r39_1.1), .d (.int .i64 r39_1.2.1), .d (.int .i64 r39_1.2.2)]), (1, [.d (.int .i64 x_0), .d (.int .i64 x_1), .d (.int .i64 x_2)])], 2⟩ [(0 : Int) ≤ i ∧ i < (((l).length : Nat) : Int), FnOK Go.Proofs.Try.prog 25 (f25_bucket_Bucket_Tick_in (l.getD i.toNat 0) b_0 b_1 b_2) (f25_bucket_Bucket_Tick_out r39_1)] (by kernel_rfl) ⟨g39_0, (f25_bucket_Bucket_Tick_ok (l.getD i.toNat 0) b_0 b_1 b_2 r39_1 cr39_1), trivial⟩ ?_
        obtain ⟨g42_0, h⟩ := ifS h
        obtain ⟨r42_1, cr42_1, h⟩ := bindS h
        refine At.step hm ht ⟨[(5, .call [] [] (f26_broughamref11_Tick_out r42_1))], [], [], [2, 7, 8, 9], [0, 1]⟩ 15 ⟨[(2, .one (.c (.d (.sl (.int .i64) l)))), (7, .one (.c (.ptr 0 0))), (8, .one (.c (.ptr 1 0))), (9, .one (.c (.d (.int .i64 i))))], [], [(0, [.d (.int .i64 r39_1.1), .d (.int .i64 r39_1.2.1), .d (.int .i64 r39_1.2.2)]), (1, [.d (.int .i64 r42_1.1), .d (.int .i64 r42_1.2.1), .d (.int .i64 r42_1.2.2)])], 2⟩ [(0 : Int) ≤ i ∧ i < (((l).length : Nat) : Int), FnOK Go.Proofs.Try.prog 26 (f26_broughamref11_Tick_in x_0 x_1 x_2 (l.getD i.toNat 0)) (f26_broughamref11_Tick_out r42_1), 0 + 3 ≤ 3] (by kernel_rfl) ⟨g42_0, (f26_broughamref11_Tick_ok x_0 x_1 x_2 (l.getD i.toNat 0) r42_1 cr42_1), (by decide), trivial⟩ ?_
        obtain ⟨r49_0, cr49_0, h⟩ := bindS h
        rcases iteS h with ⟨b49_e0, h⟩ | ⟨b49_e0, h⟩
        · refine At.step hm ht ⟨[(1, .call [0] [] (f27_bucket_Bucket_Left_out r49_0))], [true], [], [], []⟩ 16 ⟨[], [], [], 0⟩ [FnOK Go.Proofs.Try.prog 27 (f27_bucket_Bucket_Left_in r39_1.1 r39_1.2.1 r39_1.2.2) (f27_bucket_Bucket_Left_out r49_0), ((r49_0.1 : Int) != r42_1.2.2) = true] (by kernel_rfl) ⟨(f27_bucket_Bucket_Left_ok r39_1.1 r39_1.2.1 r39_1.2.2 r49_0 cr49_0), b49_e0, trivial⟩ ?_
          have h := Option.some.inj h
          subst h
          have hk : o = f4_broughamlaw11_BucketPlays_out false := hk
          subst hk
          exact At.fin hm ht ⟨[], [], [], [6], []⟩ [] (by kernel_rfl) trivial
        · refine At.step hm ht ⟨[(1, .call [0] [] (f27_bucket_Bucket_Left_out r49_0))], [false], [], [2, 7, 8, 9], [0, 1]⟩ 7 ⟨[(2, .one (.c (.d (.sl (.int .i64) l)))), (7, .one (.c (.ptr 0 0))), (8, .one (.c (.ptr 1 0))), (9, .one (.c (.d (.int .i64 i))))], [], [(0, [.d (.int .i64 r49_0.2.1), .d (.int .i64 r49_0.2.2.1), .d (.int .i64 r49_0.2.2.2)]), (1, [.d (.int .i64 r42_1.1), .d (.int .i64 r42_1.2.1), .d (.int .i64 r42_1.2.2)])], 2⟩ [FnOK Go.Proofs.Try.prog 27 (f27_bucket_Bucket_Left_in r39_1.1 r39_1.2.1 r39_1.2.2) (f27_bucket_Bucket_Left_out r49_0), ((r49_0.1 : Int) != r42_1.2.2) = false] (by kernel_rfl) ⟨(f27_bucket_Bucket_Left_ok r39_1.1 r39_1.2.1 r39_1.2.2 r49_0 cr49_0), b49_e0, trivial⟩ ?_
          refine At.step hm ht ⟨[], [], [], [2, 7, 8, 9], [0, 1]⟩ 6 ⟨[(2, .one (.c (.d (.sl (.int .i64) l)))), (7, .one (.c (.ptr 0 0))), (8, .one (.c (.ptr 1 0))), (9, .one (.c (.d (.int .i64 (IntKind.wrap .i64 (i + 1))))))], [], [(0, [.d (.int .i64 r49_0.2.1), .d (.int .i64 r49_0.2.2.1), .d (.int .i64 r49_0.2.2.2)]), (1, [.d (.int .i64 r42_1.1), .d (.int .i64 r42_1.2.1), .d (.int .i64 r42_1.2.2)])], 2⟩ [] (by kernel_rfl) trivial ?_
          exact ih l (IntKind.wrap .i64 (i + 1)) r49_0.2.1 r49_0.2.2.1 r49_0.2.2.2 r42_1.1 r42_1.2.1 r42_1.2.2 w h o hk
    · refine At.step hm ht ⟨[], [false], [], [], []⟩ 17 ⟨[], [], [], 0⟩ [(decide ((i : Int) < ((l.length : Nat) : Int))) = false] (by kernel_rfl) ⟨b18_e0, trivial⟩ ?_
      have h := Option.some.inj h
      subst h
      exact hk
def f4_broughamlaw11_BucketPlays (n : Nat) (burst : Int) (rate : Int) (l : List Int) : Option (Bool) :=
  (f21_bucket_New burst rate).bind fun r2_0 =>
  if (decide ((((l.length : Nat) : Int) : Int) > 1000)) = true then
    some true
  else
    (f22_broughamref11_New burst rate).bind fun r8_0 =>
    (f4_broughamlaw11_BucketPlays_L6 n l 0 r2_0.1 r2_0.2.1 r2_0.2.2 r8_0.1 r8_0.2.1 r8_0.2.2).bind fun w52 =>
    match w52 with
    | .inl e53 =>
      some e53
    | .inr e54 =>
      (f28_broughamlaw11_alive).bind fun r55_0 =>
      some r55_0
theorem f4_broughamlaw11_BucketPlays_ok (n : Nat) (burst : Int) (rate : Int) (l : List Int) (r : Bool) (h : f4_broughamlaw11_BucketPlays n burst rate l = some r) : FnOK Go.Proofs.Try.prog 4 (f4_broughamlaw11_BucketPlays_in burst rate l) (f4_broughamlaw11_BucketPlays_out r) := by
  unfold f4_broughamlaw11_BucketPlays at h
  refine At.fn (r := 0) Go.Proofs.Try.func4 rfl (by kernel_rfl) rfl rfl (by kernel_rfl) ?_
  show At Go.Proofs.Try.prog Go.Proofs.Try.f4 0 0 ⟨[(0, .one (.c (.d (.int .i64 burst)))), (1, .one (.c (.d (.int .i64 rate)))), (2, .one (.c (.d (.sl (.int .i64) l))))], [], [], 0⟩ _
  refine At.step hm ht ⟨[], [], [], [0, 1, 2], []⟩ 1 ⟨[(0, .one (.c (.d (.int .i64 burst)))), (1, .one (.c (.d (.int .i64 rate)))), (2, .one (.c (.d (.sl (.int .i64) l))))], [], [], 0⟩ [] (by kernel_rfl) trivial ?_
  obtain ⟨r2_0, cr2_0, h⟩ := bindS h
  refine At.step hm ht ⟨[(2, .call [] [] (f21_bucket_New_out r2_0))], [], [], [0, 1, 2, 7], [2]⟩ 2 ⟨[(0, .one (.c (.d (.int .i64 burst)))), (1, .one (.c (.d (.int .i64 rate)))), (2, .one (.c (.d (.sl (.int .i64) l)))), (7, .one (.c (.ptr 0 0)))], [], [(0, [.d (.int .i64 r2_0.1), .d (.int .i64 r2_0.2.1), .d (.int .i64 r2_0.2.2)])], 1⟩ [FnOK Go.Proofs.Try.prog 21 (f21_bucket_New_in burst rate) (f21_bucket_New_out r2_0)] (by kernel_rfl) ⟨(f21_bucket_New_ok burst rate r2_0 cr2_0), trivial⟩ ?_
  rcases iteS h with ⟨b6_e0, h⟩ | ⟨b6_e0, h⟩
  · refine At.step hm ht ⟨[], [true], [], [7], [0]⟩ 3 ⟨[(7, .one (.c (.ptr 0 0)))], [], [(0, [.d (.int .i64 r2_0.1), .d (.int .i64 r2_0.2.1), .d (.int .i64 r2_0.2.2)])], 1⟩ [(decide ((((l.length : Nat) : Int) : Int) > 1000)) = true] (by kernel_rfl) ⟨b6_e0, trivial⟩ ?_
    have h := Option.some.inj h
    subst h
    exact At.fin hm ht ⟨[], [], [], [6], []⟩ [] (by kernel_rfl) trivial
  · refine At.step hm ht ⟨[], [false], [], [0, 1, 2, 7], [0]⟩ 4 ⟨[(0, .one (.c (.d (.int .i64 burst)))), (1, .one (.c (.d (.int .i64 rate)))), (2, .one (.c (.d (.sl (.int .i64) l)))), (7, .one (.c (.ptr 0 0)))], [], [(0, [.d (.int .i64 r2_0.1), .d (.int .i64 r2_0.2.1), .d (.int .i64 r2_0.2.2)])], 1⟩ [(decide ((((l.length : Nat) : Int) : Int) > 1000)) = false] (by kernel_rfl) ⟨b6_e0, trivial⟩ ?_
    obtain ⟨r8_0, cr8_0, h⟩ := bindS h
    refine At.step hm ht ⟨[(2, .call [] [] (f22_broughamref11_New_out r8_0))], [], [], [2, 7, 8], [0, 4]⟩ 5 ⟨[(2, .one (.c (.d (.sl (.int .i64) l)))), (7, .one (.c (.ptr 0 0))), (8, .one (.c (.ptr 1 0)))], [], [(0, [.d (.int .i64 r2_0.1), .d (.int .i64 r2_0.2.1), .d (.int .i64 r2_0.2.2)]), (1, [.d (.int .i64 r8_0.1), .d (.int .i64 r8_0.2.1), .d (.int .i64 r8_0.2.2)])], 2⟩ [FnOK Go.Proofs.Try.prog 22 (f22_broughamref11_New_in burst rate) (f22_broughamref11_New_out r8_0), 0 + 3 ≤ 3] (by kernel_rfl) ⟨(f22_broughamref11_New_ok burst rate r8_0 cr8_0), (by decide), trivial⟩ ?_
    refine At.step hm ht ⟨[], [], [], [2, 7, 8, 9], [0, 1]⟩ 6 ⟨[(2, .one (.c (.d (.sl (.int .i64) l)))), (7, .one (.c (.ptr 0 0))), (8, .one (.c (.ptr 1 0))), (9, .one (.c (.d (.int .i64 0))))], [], [(0, [.d (.int .i64 r2_0.1), .d (.int .i64 r2_0.2.1), .d (.int .i64 r2_0.2.2)]), (1, [.d (.int .i64 r8_0.1), .d (.int .i64 r8_0.2.1), .d (.int .i64 r8_0.2.2)])], 2⟩ [] (by kernel_rfl) trivial ?_
    obtain ⟨w52, cw52, h⟩ := bindS h
    refine f4_broughamlaw11_BucketPlays_L6_ok n l 0 r2_0.1 r2_0.2.1 r2_0.2.2 r8_0.1 r8_0.2.1 r8_0.2.2 w52 cw52 _ ?_
    rcases w52 with e53 | e54
    · have h := Option.some.inj h
      subst h
      rfl
    · show At Go.Proofs.Try.prog Go.Proofs.Try.f4 0 17 ⟨[], [], [], 0⟩ _
      obtain ⟨r55_0, cr55_0, h⟩ := bindS h
      have h := Option.some.inj h
      subst h
      exact At.fin hm ht ⟨[(0, .call [] [] (f28_broughamlaw11_alive_out r55_0))], [], [], [6], []⟩ [FnOK Go.Proofs.Try.prog 28 (f28_broughamlaw11_alive_in) (f28_broughamlaw11_alive_out r55_0)] (by kernel_rfl) ⟨(f28_broughamlaw11_alive_ok r55_0 cr55_0), trivial⟩
/-! brougham/broughamlaw11.BucketBound -/
def f5_broughamlaw11_BucketBound_in (burst : Int) (rate : Int) (l : List Int) : Inn := ⟨[.c (.d (.int .i64 burst)), .c (.d (.int .i64 rate)), .c (.d (.sl (.int .i64) l))], [], [], 0⟩
def f5_broughamlaw11_BucketBound_out (r : Bool) : Out := ⟨.one (.c (.d (.bool r))), [], [], 0⟩
def f5_broughamlaw11_BucketBound_L12 : Nat → Int → Int → (List Int) → (List Int) → Int → Int → Int → Int → Int → Int → Option (Int × Int × List Int × List Int × Int × Int × Int × Int × Int)
  | 0, _, _, _, _, _, _, _, _, _, _ => none
  | n + 1, burst, rate, l, done, i, n_, k, b_0, b_1, b_2 =>
    if (0 : Int) ≤ i ∧ i < (((l).length : Nat) : Int) then
    if (decide ((k : Int) < (l.getD i.toNat 0))) = true then
      if (decide ((k : Int) < 50)) = true then
        (f24_bucket_Bucket_Take b_0 b_1 b_2).bind fun r115_0 =>
        if r115_0.1 = true then
          f5_broughamlaw11_BucketBound_L12 n burst rate l done i (IntKind.wrap .i64 (n_ + 1)) (IntKind.wrap .i64 (k + 1)) r115_0.2.1 r115_0.2.2.1 r115_0.2.2.2
        else
          f5_broughamlaw11_BucketBound_L12 n burst rate l done i n_ (IntKind.wrap .i64 (k + 1)) r115_0.2.1 r115_0.2.2.1 r115_0.2.2.2
      else
        some ((burst, rate, l, done, i, n_, b_0, b_1, b_2))
    else
      some ((burst, rate, l, done, i, n_, b_0, b_1, b_2))
    else none
def f5_broughamlaw11_BucketBound_L12_k (e : Int × Int × List Int × List Int × Int × Int × Int × Int × Int) (o : Out) : Prop := At Go.Proofs.Try.prog Go.Proofs.Try.f5 0 16 ⟨[(0, .one (.c (.d (.int .i64 e.1)))), (1, .one (.c (.d (.int .i64 e.2.1)))), (2, .one (.c (.d (.sl (.int .i64) e.2.2.1)))), (7, .one (.c (.ptr 0 0))), (8, .one (.c (.own 1 (.int .i64) e.2.2.2.1))), (9, .one (.c (.d (.int .i64 e.2.2.2.2.1)))), (10, .one (.c (.d (.int .i64 e.2.2.2.2.2.1))))], [(1, some ⟨3, 0⟩)], [(0, [.d (.int .i64 e.2.2.2.2.2.2.1), .d (.int .i64 e.2.2.2.2.2.2.2.1), .d (.int .i64 e.2.2.2.2.2.2.2.2)])], 2⟩ o
theorem f5_broughamlaw11_BucketBound_L12_ok (n : Nat) : ∀ (burst : Int) (rate : Int) (l : List Int) (done : List Int) (i : Int) (n_ : Int) (k : Int) (b_0 : Int) (b_1 : Int) (b_2 : Int) (w : Int × Int × List Int × List Int × Int × Int × Int × Int × Int) (h : f5_broughamlaw11_BucketBound_L12 n burst rate l done i n_ k b_0 b_1 b_2 = some w) (o : Out) (hk : f5_broughamlaw11_BucketBound_L12_k w o), At Go.Proofs.Try.prog Go.Proofs.Try.f5 0 12 ⟨[(0, .one (.c (.d (.int .i64 burst)))), (1, .one (.c (.d (.int .i64 rate)))), (2, .one (.c (.d (.sl (.int .i64) l)))), (7, .one (.c (.ptr 0 0))), (8, .one (.c (.own 1 (.int .i64) done))), (9, .one (.c (.d (.int .i64 i)))), (10, .one (.c (.d (.int .i64 n_)))), (11, .one (.c (.d (.int .i64 k))))], [(1, some ⟨3, 0⟩)], [(0, [.d (.int .i64 b_0), .d (.int .i64 b_1), .d (.int .i64 b_2)])], 2⟩ o := by
  induction n with
  | zero => intro burst rate l done i n_ k b_0 b_1 b_2 w h; rw [f5_broughamlaw11_BucketBound_L12] at h; cases h
  | succ n ih =>
    intro burst rate l done i n_ k b_0 b_1 b_2 w h o hk
    rw [f5_broughamlaw11_BucketBound_L12] at h
    obtain ⟨g114_0, h⟩ := ifS h
    rcases iteS h with ⟨b114_6, h⟩ | ⟨b114_6, h⟩
    · rcases iteS h with ⟨b114_e0, h⟩ | ⟨b114_e0, h⟩
      · refine At.step hm ht ⟨[(6, .b true)], [true], [], [0, 1, 2, 7, 8, 9, 10, 11], [0, 1]⟩ 14 ⟨[(0, .one (.c (.d (.int .i64 burst)))), (1, .one (.c (.d (.int .i64 rate)))), (2, .one (.c (.d (.sl (.int .i64) l)))), (7, .one (.c (.ptr 0 0))), (8, .one (.c (.own 1 (.int .i64) done))), (9, .one (.c (.d (.int .i64 i)))), (10, .one (.c (.d (.int .i64 n_)))), (11, .one (.c (.d (.int .i64 k))))], [(1, some ⟨3, 0⟩)], [(0, [.d (.int .i64 b_0), .d (.int .i64 b_1), .d (.int .i64 b_2)])], 2⟩ [(0 : Int) ≤ i ∧ i < (((l).length : Nat) : Int), (decide ((k : Int) < (l.getD i.toNat 0))) = true, (decide ((k : Int) < 50)) = true] (by kernel_rfl) ⟨g114_0, b114_6, b114_e0, trivial⟩ ?_
        obtain ⟨r115_0, cr115_0, h⟩ := bindS h
        rcases iteS h with ⟨b115_e0, h⟩ | ⟨b115_e0, h⟩
        · refine At.step hm ht ⟨[(1, .call [0] [] (f24_bucket_Bucket_Take_out r115_0))], [true], [], [0, 1, 2, 7, 8, 9, 10, 11], [0, 1]⟩ 15 ⟨[(0, .one (.c (.d (.int .i64 burst)))), (1, .one (.c (.d (.int .i64 rate)))), (2, .one (.c (.d (.sl (.int .i64) l)))), (7, .one (.c (.ptr 0 0))), (8, .one (.c (.own 1 (.int .i64) done))), (9, .one (.c (.d (.int .i64 i)))), (10, .one (.c (.d (.int .i64 n_)))), (11, .one (.c (.d (.int .i64 k))))], [(1, some ⟨3, 0⟩)], [(0, [.d (.int .i64 r115_0.2.1), .d (.int .i64 r115_0.2.2.1), .d (.int .i64 r115_0.2.2.2)])], 2⟩ [FnOK Go.Proofs.Try.prog 24 (f24_bucket_Bucket_Take_in b_0 b_1 b_2) (f24_bucket_Bucket_Take_out r115_0), r115_0.1 = true] (by kernel_rfl) ⟨(f24_bucket_Bucket_Take_ok b_0 b_1 b_2 r115_0 cr115_0), b115_e0, trivial⟩ ?_
          refine At.step hm ht ⟨[], [], [], [0, 1, 2, 7, 8, 9, 10, 11], [0, 1]⟩ 13 ⟨[(0, .one (.c (.d (.int .i64 burst)))), (1, .one (.c (.d (.int .i64 rate)))), (2, .one (.c (.d (.sl (.int .i64) l)))), (7, .one (.c (.ptr 0 0))), (8, .one (.c (.own 1 (.int .i64) done))), (9, .one (.c (.d (.int .i64 i)))), (10, .one (.c (.d (.int .i64 (IntKind.wrap .i64 (n_ + 1)))))), (11, .one (.c (.d (.int .i64 k))))], [(1, some ⟨3, 0⟩)], [(0, [.d (.int .i64 r115_0.2.1), .d (.int .i64 r115_0.2.2.1), .d (.int .i64 r115_0.2.2.2)])], 2⟩ [] (by kernel_rfl) trivial ?_
          refine At.step hm ht ⟨[], [], [], [0, 1, 2, 7, 8, 9, 10, 11], [0, 1]⟩ 12 ⟨[(0, .one (.c (.d (.int .i64 burst)))), (1, .one (.c (.d (.int .i64 rate)))), (2, .one (.c (.d (.sl (.int .i64) l)))), (7, .one (.c (.ptr 0 0))), (8, .one (.c (.own 1 (.int .i64) done))), (9, .one (.c (.d (.int .i64 i)))), (10, .one (.c (.d (.int .i64 (IntKind.wrap .i64 (n_ + 1)))))), (11, .one (.c (.d (.int .i64 (IntKind.wrap .i64 (k + 1))))))], [(1, some ⟨3, 0⟩)], [(0, [.d (.int .i64 r115_0.2.1), .d (.int .i64 r115_0.2.2.1), .d (.int .i64 r115_0.2.2.2)])], 2⟩ [] (by kernel_rfl) trivial ?_
          exact ih burst rate l done i (IntKind.wrap .i64 (n_ + 1)) (IntKind.wrap .i64 (k + 1)) r115_0.2.1 r115_0.2.2.1 r115_0.2.2.2 w h o hk
        · refine At.step hm ht ⟨[(1, .call [0] [] (f24_bucket_Bucket_Take_out r115_0))], [false], [], [0, 1, 2, 7, 8, 9, 10, 11], [0, 1]⟩ 13 ⟨[(0, .one (.c (.d (.int .i64 burst)))), (1, .one (.c (.d (.int .i64 rate)))), (2, .one (.c (.d (.sl (.int .i64) l)))), (7, .one (.c (.ptr 0 0))), (8, .one (.c (.own 1 (.int .i64) done))), (9, .one (.c (.d (.int .i64 i)))), (10, .one (.c (.d (.int .i64 n_)))), (11, .one (.c (.d (.int .i64 k))))], [(1, some ⟨3, 0⟩)], [(0, [.d (.int .i64 r115_0.2.1), .d (.int .i64 r115_0.2.2.1), .d (.int .i64 r115_0.2.2.2)])], 2⟩ [FnOK Go.Proofs.Try.prog 24 (f24_bucket_Bucket_Take_in b_0 b_1 b_2) (f24_bucket_Bucket_Take_out r115_0), r115_0.1 = false] (by kernel_rfl) ⟨(f24_bucket_Bucket_Take_ok b_0 b_1 b_2 r115_0 cr115_0), b115_e0, trivial⟩ ?_
          refine At.step hm ht ⟨[], [], [], [0, 1, 2, 7, 8, 9, 10, 11], [0, 1]⟩ 12 ⟨[(0, .one (.c (.d (.int .i64 burst)))), (1, .one (.c (.d (.int .i64 rate)))), (2, .one (.c (.d (.sl (.int .i64) l)))), (7, .one (.c (.ptr 0 0))), (8, .one (.c (.own 1 (.int .i64) done))), (9, .one (.c (.d (.int .i64 i)))), (10, .one (.c (.d (.int .i64 n_)))), (11, .one (.c (.d (.int .i64 (IntKind.wrap .i64 (k + 1))))))], [(1, some ⟨3, 0⟩)], [(0, [.d (.int .i64 r115_0.2.1), .d (.int .i64 r115_0.2.2.1), .d (.int .i64 r115_0.2.2.2)])], 2⟩ [] (by kernel_rfl) trivial ?_
          exact ih burst rate l done i n_ (IntKind.wrap .i64 (k + 1)) r115_0.2.1 r115_0.2.2.1 r115_0.2.2.2 w h o hk
      · refine At.step hm ht ⟨[(6, .b true)], [false], [], [0, 1, 2, 7, 8, 9, 10], [0, 1]⟩ 16 ⟨[(0, .one (.c (.d (.int .i64 burst)))), (1, .one (.c (.d (.int .i64 rate)))), (2, .one (.c (.d (.sl (.int .i64) l)))), (7, .one (.c (.ptr 0 0))), (8, .one (.c (.own 1 (.int .i64) done))), (9, .one (.c (.d (.int .i64 i)))), (10, .one (.c (.d (.int .i64 n_))))], [(1, some ⟨3, 0⟩)], [(0, [.d (.int .i64 b_0), .d (.int .i64 b_1), .d (.int .i64 b_2)])], 2⟩ [(0 : Int) ≤ i ∧ i < (((l).length : Nat) : Int), (decide ((k : Int) < (l.getD i.toNat 0))) = true, (decide ((k : Int) < 50)) = false] (by kernel_rfl) ⟨g114_0, b114_6, b114_e0, trivial⟩ ?_
        have h := Option.some.inj h
        subst h
        exact hk
    · refine At.step hm ht ⟨[(6, .b false)], [false], [], [0, 1, 2, 7, 8, 9, 10], [0, 1]⟩ 16 ⟨[(0, .one (.c (.d (.int .i64 burst)))), (1, .one (.c (.d (.int .i64 rate)))), (2, .one (.c (.d (.sl (.int .i64) l)))), (7, .one (.c (.ptr 0 0))), (8, .one (.c (.own 1 (.int .i64) done))), (9, .one (.c (.d (.int .i64 i)))), (10, .one (.c (.d (.int .i64 n_))))], [(1, some ⟨3, 0⟩)], [(0, [.d (.int .i64 b_0), .d (.int .i64 b_1), .d (.int .i64 b_2)])], 2⟩ [(0 : Int) ≤ i ∧ i < (((l).length : Nat) : Int), (decide ((k : Int) < (l.getD i.toNat 0))) = false, false = false] (by kernel_rfl) ⟨g114_0, b114_6, rfl, trivial⟩ ?_
      have h := Option.some.inj h
      subst h
      exact hk
def f5_broughamlaw11_BucketBound_L23 : Nat → Int → Int → (List Int) → Int → Int → Int → Option ((Bool) ⊕ (Int × Int × List Int × Int))
  | 0, _, _, _, _, _, _ => none
  | n + 1, burst, rate, done, i, sum, k =>
    if (decide ((k : Int) < ((done.length : Nat) : Int))) = true then
      if (0 : Int) ≤ k ∧ k < (((done).length : Nat) : Int) then
      if (decide (((IntKind.wrap .i64 (sum + (done.getD k.toNat 0))) : Int) > (IntKind.wrap .i64 (burst + (IntKind.wrap .i64 (rate * (IntKind.wrap .i64 (k - i)))))))) = true then
        some (.inl false)
      else
        f5_broughamlaw11_BucketBound_L23 n burst rate done i (IntKind.wrap .i64 (sum + (done.getD k.toNat 0))) (IntKind.wrap .i64 (k + 1))
      else none
    else
      some (.inr ((burst, rate, done, i)))
def f5_broughamlaw11_BucketBound_L23_k (w : (Bool) ⊕ (Int × Int × List Int × Int)) (o : Out) : Prop := match w with
  | .inl e => o = f5_broughamlaw11_BucketBound_out e
  | .inr e => At Go.Proofs.Try.prog Go.Proofs.Try.f5 0 20 ⟨[(0, .one (.c (.d (.int .i64 e.1)))), (1, .one (.c (.d (.int .i64 e.2.1)))), (8, .one (.c (.own 0 (.int .i64) e.2.2.1))), (12, .one (.c (.d (.int .i64 e.2.2.2))))], [(0, some ⟨3, 0⟩)], [], 1⟩ o
theorem f5_broughamlaw11_BucketBound_L23_ok (n : Nat) : ∀ (burst : Int) (rate : Int) (done : List Int) (i : Int) (sum : Int) (k : Int) (w : (Bool) ⊕ (Int × Int × List Int × Int)) (h : f5_broughamlaw11_BucketBound_L23 n burst rate done i sum k = some w) (o : Out) (hk : f5_broughamlaw11_BucketBound_L23_k w o), At Go.Proofs.Try.prog Go.Proofs.Try.f5 0 23 ⟨[(0, .one (.c (.d (.int .i64 burst)))), (1, .one (.c (.d (.int .i64 rate)))), (8, .one (.c (.own 0 (.int .i64) done))), (12, .one (.c (.d (.int .i64 i)))), (13, .one (.c (.d (.int .i64 sum)))), (14, .one (.c (.d (.int .i64 k))))], [(0, some ⟨3, 0⟩)], [], 1⟩ o := by
  induction n with
  | zero => intro burst rate done i sum k w h; rw [f5_broughamlaw11_BucketBound_L23] at h; cases h
  | succ n ih =>
    intro burst rate done i sum k w h o hk
    rw [f5_broughamlaw11_BucketBound_L23] at h
    rcases iteS h with ⟨b130_e0, h⟩ | ⟨b130_e0, h⟩
    · refine At.step hm ht ⟨[], [true], [], [0, 1, 8, 12, 13, 14], [0]⟩ 25 ⟨[(0, .one (.c (.d (.int .i64 burst)))), (1, .one (.c (.d (.int .i64 rate)))), (8, .one (.c (.own 0 (.int .i64) done))), (12, .one (.c (.d (.int .i64 i)))), (13, .one (.c (.d (.int .i64 sum)))), (14, .one (.c (.d (.int .i64 k))))], [(0, some ⟨3, 0⟩)], [], 1⟩ [(decide ((k : Int) < ((done.length : Nat) : Int))) = true] (by kernel_rfl) ⟨b130_e0, trivial⟩ ?_
      obtain ⟨g131_0, h⟩ := ifS h
      refine At.step hm ht ⟨[], [], [], [0, 1, 8, 12, 13, 14], [0]⟩ 26 ⟨[(0, .one (.c (.d (.int .i64 burst)))), (1, .one (.c (.d (.int .i64 rate)))), (8, .one (.c (.own 0 (.int .i64) done))), (12, .one (.c (.d (.int .i64 i)))), (13, .one (.c (.d (.int .i64 (IntKind.wrap .i64 (sum + (done.getD k.toNat 0))))))), (14, .one (.c (.d (.int .i64 k))))], [(0, some ⟨3, 0⟩)], [], 1⟩ [(0 : Int) ≤ k ∧ k < (((done).length : Nat) : Int)] (by kernel_rfl) ⟨g131_0, trivial⟩ ?_
      rcases iteS h with ⟨b132_e0, h⟩ | ⟨b132_e0, h⟩
      · refine At.step hm ht ⟨[], [true], [], [], []⟩ 27 ⟨[], [], [], 0⟩ [(decide (((IntKind.wrap .i64 (sum + (done.getD k.toNat 0))) : Int) > (IntKind.wrap .i64 (burst + (IntKind.wrap .i64 (rate * (IntKind.wrap .i64 (k - i)))))))) = true] (by kernel_rfl) ⟨b132_e0, trivial⟩ ?_
        have h := Option.some.inj h
        subst h
        have hk : o = f5_broughamlaw11_BucketBound_out false := hk
        subst hk
        exact At.fin hm ht ⟨[], [], [], [6], []⟩ [] (by kernel_rfl) trivial
      · refine At.step hm ht ⟨[], [false], [], [0, 1, 8, 12, 13, 14], [0]⟩ 24 ⟨[(0, .one (.c (.d (.int .i64 burst)))), (1, .one (.c (.d (.int .i64 rate)))), (8, .one (.c (.own 0 (.int .i64) done))), (12, .one (.c (.d (.int .i64 i)))), (13, .one (.c (.d (.int .i64 (IntKind.wrap .i64 (sum + (done.getD k.toNat 0))))))), (14, .one (.c (.d (.int .i64 k))))], [(0, some ⟨3, 0⟩)], [], 1⟩ [(decide (((IntKind.wrap .i64 (sum + (done.getD k.toNat 0))) : Int) > (IntKind.wrap .i64 (burst + (IntKind.wrap .i64 (rate * (IntKind.wrap .i64 (k - i)))))))) = false] (by kernel_rfl) ⟨b132_e0, trivial⟩ ?_
        refine At.step hm ht ⟨[], [], [], [0, 1, 8, 12, 13, 14], [0]⟩ 23 ⟨[(0, .one (.c (.d (.int .i64 burst)))), (1, .one (.c (.d (.int .i64 rate)))), (8, .one (.c (.own 0 (.int .i64) done))), (12, .one (.c (.d (.int .i64 i)))), (13, .one (.c (.d (.int .i64 (IntKind.wrap .i64 (sum + (done.getD k.toNat 0))))))), (14, .one (.c (.d (.int .i64 (IntKind.wrap .i64 (k + 1))))))], [(0, some ⟨3, 0⟩)], [], 1⟩ [] (by kernel_rfl) trivial ?_
        exact ih burst rate done i (IntKind.wrap .i64 (sum + (done.getD k.toNat 0))) (IntKind.wrap .i64 (k + 1)) w h o hk
    · refine At.step hm ht ⟨[], [false], [], [0, 1, 8, 12], [0]⟩ 20 ⟨[(0, .one (.c (.d (.int .i64 burst)))), (1, .one (.c (.d (.int .i64 rate)))), (8, .one (.c (.own 0 (.int .i64) done))), (12, .one (.c (.d (.int .i64 i))))], [(0, some ⟨3, 0⟩)], [], 1⟩ [(decide ((k : Int) < ((done.length : Nat) : Int))) = false] (by kernel_rfl) ⟨b130_e0, trivial⟩ ?_
      have h := Option.some.inj h
      subst h
      exact hk
def f5_broughamlaw11_BucketBound_L8 : Nat → Int → Int → (List Int) → (List Int) → Int → Int → Int → Int → Option (Int × Int × List Int)
  | 0, _, _, _, _, _, _, _, _ => none
  | n + 1, burst, rate, l, done, i, b_0, b_1, b_2 =>
    if (decide ((i : Int) < ((l.length : Nat) : Int))) = true then
      (f5_broughamlaw11_BucketBound_L12 n burst rate l done i 0 0 b_0 b_1 b_2).bind fun w119 =>
      if w119.2.2.2.1.length + [w119.2.2.2.2.2.1].length ≤ maxLen ∧ (w119.2.2.2.1.length + [w119.2.2.2.2.2.1].length) * 8 ≤ 140737488355328 then
      (f25_bucket_Bucket_Tick 1 w119.2.2.2.2.2.2.1 w119.2.2.2.2.2.2.2.1 w119.2.2.2.2.2.2.2.2).bind fun r122_0 =>
      f5_broughamlaw11_BucketBound_L8 n w119.1 w119.2.1 w119.2.2.1 (w119.2.2.2.1 ++ [w119.2.2.2.2.2.1]) (IntKind.wrap .i64 (w119.2.2.2.2.1 + 1)) r122_0.1 r122_0.2.1 r122_0.2.2
      else none
    else
      some ((burst, rate, done))
def f5_broughamlaw11_BucketBound_L8_k (e : Int × Int × List Int) (o : Out) : Prop := At Go.Proofs.Try.prog Go.Proofs.Try.f5 0 18 ⟨[(0, .one (.c (.d (.int .i64 e.1)))), (1, .one (.c (.d (.int .i64 e.2.1)))), (8, .one (.c (.own 0 (.int .i64) e.2.2)))], [(0, some ⟨3, 0⟩)], [], 1⟩ o
theorem f5_broughamlaw11_BucketBound_L8_ok (n : Nat) : ∀ (burst : Int) (rate : Int) (l : List Int) (done : List Int) (i : Int) (b_0 : Int) (b_1 : Int) (b_2 : Int) (w : Int × Int × List Int) (h : f5_broughamlaw11_BucketBound_L8 n burst rate l done i b_0 b_1 b_2 = some w) (o : Out) (hk : f5_broughamlaw11_BucketBound_L8_k w o), At Go.Proofs.Try.prog Go.Proofs.Try.f5 0 8 ⟨[(0, .one (.c (.d (.int .i64 burst)))), (1, .one (.c (.d (.int .i64 rate)))), (2, .one (.c (.d (.sl (.int .i64) l)))), (7, .one (.c (.ptr 0 0))), (8, .one (.c (.own 1 (.int .i64) done))), (9, .one (.c (.d (.int .i64 i))))], [(1, some ⟨3, 0⟩)], [(0, [.d (.int .i64 b_0), .d (.int .i64 b_1), .d (.int .i64 b_2)])], 2⟩ o := by
  induction n with
  | zero => intro burst rate l done i b_0 b_1 b_2 w h; rw [f5_broughamlaw11_BucketBound_L8] at h; cases h
  | succ n ih =>
    intro burst rate l done i b_0 b_1 b_2 w h o hk
    rw [f5_broughamlaw11_BucketBound_L8] at h
    rcases iteS h with ⟨b111_e0, h⟩ | ⟨b111_e0, h⟩
    · refine At.step hm ht ⟨[], [true], [], [0, 1, 2, 7, 8, 9], [0, 1]⟩ 10 ⟨[(0, .one (.c (.d (.int .i64 burst)))), (1, .one (.c (.d (.int .i64 rate)))), (2, .one (.c (.d (.sl (.int .i64) l)))), (7, .one (.c (.ptr 0 0))), (8, .one (.c (.own 1 (.int .i64) done))), (9, .one (.c (.d (.int .i64 i))))], [(1, some ⟨3, 0⟩)], [(0, [.d (.int .i64 b_0), .d (.int .i64 b_1), .d (.int .i64 b_2)])], 2⟩ [(decide ((i : Int) < ((l.length : Nat) : Int))) = true] (by kernel_rfl) ⟨b111_e0, trivial⟩ ?_
      refine At.step hm ht ⟨[], [], [], [0, 1, 2, 7, 8, 9, 10], [0, 1]⟩ 11 ⟨[(0, .one (.c (.d (.int .i64 burst)))), (1, .one (.c (.d (.int .i64 rate)))), (2, .one (.c (.d (.sl (.int .i64) l)))), (7, .one (.c (.ptr 0 0))), (8, .one (.c (.own 1 (.int .i64) done))), (9, .one (.c (.d (.int .i64 i)))), (10, .one (.c (.d (.int .i64 0))))], [(1, some ⟨3, 0⟩)], [(0, [.d (.int .i64 b_0), .d (.int .i64 b_1), .d (.int .i64 b_2)])], 2⟩ [] (by kernel_rfl) trivial ?_
      refine At.step hm ht ⟨[], [], [], [0, 1, 2, 7, 8, 9, 10, 11], [0, 1]⟩ 12 ⟨[(0, .one (.c (.d (.int .i64 burst)))), (1, .one (.c (.d (.int .i64 rate)))), (2, .one (.c (.d (.sl (.int .i64) l)))), (7, .one (.c (.ptr 0 0))), (8, .one (.c (.own 1 (.int .i64) done))), (9, .one (.c (.d (.int .i64 i)))), (10, .one (.c (.d (.int .i64 0)))), (11, .one (.c (.d (.int .i64 0))))], [(1, some ⟨3, 0⟩)], [(0, [.d (.int .i64 b_0), .d (.int .i64 b_1), .d (.int .i64 b_2)])], 2⟩ [] (by kernel_rfl) trivial ?_
      obtain ⟨w119, cw119, h⟩ := bindS h
      refine f5_broughamlaw11_BucketBound_L12_ok n burst rate l done i 0 0 b_0 b_1 b_2 w119 cw119 _ ?_
      show At Go.Proofs.Try.prog Go.Proofs.Try.f5 0 16 ⟨[(0, .one (.c (.d (.int .i64 w119.1)))), (1, .one (.c (.d (.int .i64 w119.2.1)))), (2, .one (.c (.d (.sl (.int .i64) w119.2.2.1)))), (7, .one (.c (.ptr 0 0))), (8, .one (.c (.own 1 (.int .i64) w119.2.2.2.1))), (9, .one (.c (.d (.int .i64 w119.2.2.2.2.1)))), (10, .one (.c (.d (.int .i64 w119.2.2.2.2.2.1))))], [(1, some ⟨3, 0⟩)], [(0, [.d (.int .i64 w119.2.2.2.2.2.2.1), .d (.int .i64 w119.2.2.2.2.2.2.2.1), .d (.int .i64 w119.2.2.2.2.2.2.2.2)])], 2⟩ _
      obtain ⟨g121_0, h⟩ := ifS h
      refine At.step hm ht ⟨[], [], [], [0, 1, 2, 7, 8, 9], [0, 5]⟩ 17 ⟨[(0, .one (.c (.d (.int .i64 w119.1)))), (1, .one (.c (.d (.int .i64 w119.2.1)))), (2, .one (.c (.d (.sl (.int .i64) w119.2.2.1)))), (7, .one (.c (.ptr 0 0))), (8, .one (.c (.own 1 (.int .i64) (w119.2.2.2.1 ++ [w119.2.2.2.2.2.1])))), (9, .one (.c (.d (.int .i64 w119.2.2.2.2.1))))], [(1, some ⟨3, 0⟩)], [(0, [.d (.int .i64 w119.2.2.2.2.2.2.1), .d (.int .i64 w119.2.2.2.2.2.2.2.1), .d (.int .i64 w119.2.2.2.2.2.2.2.2)])], 2⟩ [w119.2.2.2.1.length + [w119.2.2.2.2.2.1].length ≤ maxLen ∧ (w119.2.2.2.1.length + [w119.2.2.2.2.2.1].length) * 8 ≤ 140737488355328] (by kernel_rfl) ⟨g121_0, trivial⟩ ?_
      obtain ⟨r122_0, cr122_0, h⟩ := bindS h
      refine At.step hm ht ⟨[(1, .call [0] [] (f25_bucket_Bucket_Tick_out r122_0))], [], [], [0, 1, 2, 7, 8, 9], [0, 1]⟩ 9 ⟨[(0, .one (.c (.d (.int .i64 w119.1)))), (1, .one (.c (.d (.int .i64 w119.2.1)))), (2, .one (.c (.d (.sl (.int .i64) w119.2.2.1)))), (7, .one (.c (.ptr 0 0))), (8, .one (.c (.own 1 (.int .i64) (w119.2.2.2.1 ++ [w119.2.2.2.2.2.1])))), (9, .one (.c (.d (.int .i64 w119.2.2.2.2.1))))], [(1, some ⟨3, 0⟩)], [(0, [.d (.int .i64 r122_0.1), .d (.int .i64 r122_0.2.1), .d (.int .i64 r122_0.2.2)])], 2⟩ [FnOK Go.Proofs.Try.prog 25 (f25_bucket_Bucket_Tick_in 1 w119.2.2.2.2.2.2.1 w119.2.2.2.2.2.2.2.1 w119.2.2.2.2.2.2.2.2) (f25_bucket_Bucket_Tick_out r122_0)] (by kernel_rfl) ⟨(f25_bucket_Bucket_Tick_ok 1 w119.2.2.2.2.2.2.1 w119.2.2.2.2.2.2.2.1 w119.2.2.2.2.2.2.2.2 r122_0 cr122_0), trivial⟩ ?_
      refine At.step hm ht ⟨[], [], [], [0, 1, 2, 7, 8, 9], [0, 1]⟩ 8 ⟨[(0, .one (.c (.d (.int .i64 w119.1)))), (1, .one (.c (.d (.int .i64 w119.2.1)))), (2, .one (.c (.d (.sl (.int .i64) w119.2.2.1)))), (7, .one (.c (.ptr 0 0))), (8, .one (.c (.own 1 (.int .i64) (w119.2.2.2.1 ++ [w119.2.2.2.2.2.1])))), (9, .one (.c (.d (.int .i64 (IntKind.wrap .i64 (w119.2.2.2.2.1 + 1))))))], [(1, some ⟨3, 0⟩)], [(0, [.d (.int .i64 r122_0.1), .d (.int .i64 r122_0.2.1), .d (.int .i64 r122_0.2.2)])], 2⟩ [] (by kernel_rfl) trivial ?_
      exact ih w119.1 w119.2.1 w119.2.2.1 (w119.2.2.2.1 ++ [w119.2.2.2.2.2.1]) (IntKind.wrap .i64 (w119.2.2.2.2.1 + 1)) r122_0.1 r122_0.2.1 r122_0.2.2 w h o hk
    · refine At.step hm ht ⟨[], [false], [], [0, 1, 8], [1]⟩ 18 ⟨[(0, .one (.c (.d (.int .i64 burst)))), (1, .one (.c (.d (.int .i64 rate)))), (8, .one (.c (.own 0 (.int .i64) done)))], [(0, some ⟨3, 0⟩)], [], 1⟩ [(decide ((i : Int) < ((l.length : Nat) : Int))) = false] (by kernel_rfl) ⟨b111_e0, trivial⟩ ?_
      have h := Option.some.inj h
      subst h
      exact hk
def f5_broughamlaw11_BucketBound_L19 : Nat → Int → Int → (List Int) → Int → Option ((Bool) ⊕ (Unit))
  | 0, _, _, _, _ => none
  | n + 1, burst, rate, done, i =>
    if (decide ((i : Int) < ((done.length : Nat) : Int))) = true then
      (f5_broughamlaw11_BucketBound_L23 n burst rate done i 0 i).bind fun w135 =>
      match w135 with
      | .inl e136 =>
        some (.inl e136)
      | .inr e137 =>
        f5_broughamlaw11_BucketBound_L19 n e137.1 e137.2.1 e137.2.2.1 (IntKind.wrap .i64 (e137.2.2.2 + 1))
    else
      some (.inr ())
def f5_broughamlaw11_BucketBound_L19_k (w : (Bool) ⊕ (Unit)) (o : Out) : Prop := match w with
  | .inl e => o = f5_broughamlaw11_BucketBound_out e
  | .inr e => At Go.Proofs.Try.prog Go.Proofs.Try.f5 0 28 ⟨[], [], [], 0⟩ o
theorem f5_broughamlaw11_BucketBound_L19_ok (n : Nat) : ∀ (burst : Int) (rate : Int) (done : List Int) (i : Int) (w : (Bool) ⊕ (Unit)) (h : f5_broughamlaw11_BucketBound_L19 n burst rate done i = some w) (o : Out) (hk : f5_broughamlaw11_BucketBound_L19_k w o), At Go.Proofs.Try.prog Go.Proofs.Try.f5 0 19 ⟨[(0, .one (.c (.d (.int .i64 burst)))), (1, .one (.c (.d (.int .i64 rate)))), (8, .one (.c (.own 0 (.int .i64) done))), (12, .one (.c (.d (.int .i64 i))))], [(0, some ⟨3, 0⟩)], [], 1⟩ o := by
  induction n with
  | zero => intro burst rate done i w h; rw [f5_broughamlaw11_BucketBound_L19] at h; cases h
  | succ n ih =>
    intro burst rate done i w h o hk
    rw [f5_broughamlaw11_BucketBound_L19] at h
    rcases iteS h with ⟨b127_e0, h⟩ | ⟨b127_e0, h⟩
    · refine At.step hm ht ⟨[], [true], [], [0, 1, 8, 12], [0]⟩ 21 ⟨[(0, .one (.c (.d (.int .i64 burst)))), (1, .one (.c (.d (.int .i64 rate)))), (8, .one (.c (.own 0 (.int .i64) done))), (12, .one (.c (.d (.int .i64 i))))], [(0, some ⟨3, 0⟩)], [], 1⟩ [(decide ((i : Int) < ((done.length : Nat) : Int))) = true] (by kernel_rfl) ⟨b127_e0, trivial⟩ ?_
      refine At.step hm ht ⟨[], [], [], [0, 1, 8, 12, 13], [0]⟩ 22 ⟨[(0, .one (.c (.d (.int .i64 burst)))), (1, .one (.c (.d (.int .i64 rate)))), (8, .one (.c (.own 0 (.int .i64) done))), (12, .one (.c (.d (.int .i64 i)))), (13, .one (.c (.d (.int .i64 0))))], [(0, some ⟨3, 0⟩)], [], 1⟩ [] (by kernel_rfl) trivial ?_
      refine At.step hm ht ⟨[], [], [], [0, 1, 8, 12, 13, 14], [0]⟩ 23 ⟨[(0, .one (.c (.d (.int .i64 burst)))), (1, .one (.c (.d (.int .i64 rate)))), (8, .one (.c (.own 0 (.int .i64) done))), (12, .one (.c (.d (.int .i64 i)))), (13, .one (.c (.d (.int .i64 0)))), (14, .one (.c (.d (.int .i64 i))))], [(0, some ⟨3, 0⟩)], [], 1⟩ [] (by kernel_rfl) trivial ?_
      obtain ⟨w135, cw135, h⟩ := bindS h
      refine f5_broughamlaw11_BucketBound_L23_ok n burst rate done i 0 i w135 cw135 _ ?_
      rcases w135 with e136 | e137
      · have h := Option.some.inj h
        subst h
        exact hk
      · show At Go.Proofs.Try.prog Go.Proofs.Try.f5 0 20 ⟨[(0, .one (.c (.d (.int .i64 e137.1)))), (1, .one (.c (.d (.int .i64 e137.2.1)))), (8, .one (.c (.own 0 (.int .i64) e137.2.2.1))), (12, .one (.c (.d (.int .i64 e137.2.2.2))))], [(0, some ⟨3, 0⟩)], [], 1⟩ _
        refine At.step hm ht ⟨[], [], [], [0, 1, 8, 12], [0]⟩ 19 ⟨[(0, .one (.c (.d (.int .i64 e137.1)))), (1, .one (.c (.d (.int .i64 e137.2.1)))), (8, .one (.c (.own 0 (.int .i64) e137.2.2.1))), (12, .one (.c (.d (.int .i64 (IntKind.wrap .i64 (e137.2.2.2 + 1))))))], [(0, some ⟨3, 0⟩)], [], 1⟩ [] (by kernel_rfl) trivial ?_
        exact ih e137.1 e137.2.1 e137.2.2.1 (IntKind.wrap .i64 (e137.2.2.2 + 1)) w h o hk
    · refine At.step hm ht ⟨[], [false], [], [], []⟩ 28 ⟨[], [], [], 0⟩ [(decide ((i : Int) < ((done.length : Nat) : Int))) = false] (by kernel_rfl) ⟨b127_e0, trivial⟩ ?_
      have h := Option.some.inj h
      subst h
      exact hk
def f5_broughamlaw11_BucketBound (n : Nat) (burst : Int) (rate : Int) (l : List Int) : Option (Bool) :=
  if (decide ((burst : Int) < 0)) = true then
    some true
  else
    if (decide ((burst : Int) > 4096)) = true then
      some true
    else
      if (decide ((rate : Int) < 0)) = true then
        some true
      else
        if (decide ((rate : Int) > 4096)) = true then
          some true
        else
          if (decide ((((l.length : Nat) : Int) : Int) > 200)) = true then
            some true
          else
            (f21_bucket_New burst rate).bind fun r107_0 =>
            (f5_broughamlaw11_BucketBound_L8 n burst rate l [] 0 r107_0.1 r107_0.2.1 r107_0.2.2).bind fun w124 =>
            (f5_broughamlaw11_BucketBound_L19 n w124.1 w124.2.1 w124.2.2 0).bind fun w139 =>
            match w139 with
            | .inl e140 =>
              some e140
            | .inr e141 =>
              (f28_broughamlaw11_alive).bind fun r142_0 =>
              some r142_0
theorem f5_broughamlaw11_BucketBound_ok (n : Nat) (burst : Int) (rate : Int) (l : List Int) (r : Bool) (h : f5_broughamlaw11_BucketBound n burst rate l = some r) : FnOK Go.Proofs.Try.prog 5 (f5_broughamlaw11_BucketBound_in burst rate l) (f5_broughamlaw11_BucketBound_out r) := by
  unfold f5_broughamlaw11_BucketBound at h
  refine At.fn (r := 0) Go.Proofs.Try.func5 rfl (by kernel_rfl) rfl rfl (by kernel_rfl) ?_
  show At Go.Proofs.Try.prog Go.Proofs.Try.f5 0 0 ⟨[(0, .one (.c (.d (.int .i64 burst)))), (1, .one (.c (.d (.int .i64 rate)))), (2, .one (.c (.d (.sl (.int .i64) l))))], [], [], 0⟩ _
  refine At.step hm ht ⟨[], [], [], [0, 1, 2], []⟩ 1 ⟨[(0, .one (.c (.d (.int .i64 burst)))), (1, .one (.c (.d (.int .i64 rate)))), (2, .one (.c (.d (.sl (.int .i64) l))))], [], [], 0⟩ [] (by kernel_rfl) trivial ?_
  rcases iteS h with ⟨b101_2, h⟩ | ⟨b101_2, h⟩
  · refine At.step hm ht ⟨[(2, .b true)], [true], [], [], []⟩ 2 ⟨[], [], [], 0⟩ [(decide ((burst : Int) < 0)) = true, true = true] (by kernel_rfl) ⟨b101_2, rfl, trivial⟩ ?_
    have h := Option.some.inj h
    subst h
    exact At.fin hm ht ⟨[], [], [], [6], []⟩ [] (by kernel_rfl) trivial
  · rcases iteS h with ⟨b101_6, h⟩ | ⟨b101_6, h⟩
    · refine At.step hm ht ⟨[(2, .b false), (6, .b true)], [true], [], [], []⟩ 2 ⟨[], [], [], 0⟩ [(decide ((burst : Int) < 0)) = false, (decide ((burst : Int) > 4096)) = true, true = true] (by kernel_rfl) ⟨b101_2, b101_6, rfl, trivial⟩ ?_
      have h := Option.some.inj h
      subst h
      exact At.fin hm ht ⟨[], [], [], [6], []⟩ [] (by kernel_rfl) trivial
    · rcases iteS h with ⟨b101_10, h⟩ | ⟨b101_10, h⟩
      · refine At.step hm ht ⟨[(2, .b false), (6, .b false), (10, .b true)], [true], [], [], []⟩ 2 ⟨[], [], [], 0⟩ [(decide ((burst : Int) < 0)) = false, (decide ((burst : Int) > 4096)) = false, (decide ((rate : Int) < 0)) = true, true = true] (by kernel_rfl) ⟨b101_2, b101_6, b101_10, rfl, trivial⟩ ?_
        have h := Option.some.inj h
        subst h
        exact At.fin hm ht ⟨[], [], [], [6], []⟩ [] (by kernel_rfl) trivial
      · rcases iteS h with ⟨b101_14, h⟩ | ⟨b101_14, h⟩
        · refine At.step hm ht ⟨[(2, .b false), (6, .b false), (10, .b false), (14, .b true)], [true], [], [], []⟩ 2 ⟨[], [], [], 0⟩ [(decide ((burst : Int) < 0)) = false, (decide ((burst : Int) > 4096)) = false, (decide ((rate : Int) < 0)) = false, (decide ((rate : Int) > 4096)) = true, true = true] (by kernel_rfl) ⟨b101_2, b101_6, b101_10, b101_14, rfl, trivial⟩ ?_
          have h := Option.some.inj h
          subst h
          exact At.fin hm ht ⟨[], [], [], [6], []⟩ [] (by kernel_rfl) trivial
        · rcases iteS h with ⟨b101_e0, h⟩ | ⟨b101_e0, h⟩
          · refine At.step hm ht ⟨[(2, .b false), (6, .b false), (10, .b false), (14, .b false)], [true], [], [], []⟩ 2 ⟨[], [], [], 0⟩ [(decide ((burst : Int) < 0)) = false, (decide ((burst : Int) > 4096)) = false, (decide ((rate : Int) < 0)) = false, (decide ((rate : Int) > 4096)) = false, (decide ((((l.length : Nat) : Int) : Int) > 200)) = true] (by kernel_rfl) ⟨b101_2, b101_6, b101_10, b101_14, b101_e0, trivial⟩ ?_
            have h := Option.some.inj h
            subst h
            exact At.fin hm ht ⟨[], [], [], [6], []⟩ [] (by kernel_rfl) trivial
          · refine At.step hm ht ⟨[(2, .b false), (6, .b false), (10, .b false), (14, .b false)], [false], [], [0, 1, 2], []⟩ 3 ⟨[(0, .one (.c (.d (.int .i64 burst)))), (1, .one (.c (.d (.int .i64 rate)))), (2, .one (.c (.d (.sl (.int .i64) l))))], [], [], 0⟩ [(decide ((burst : Int) < 0)) = false, (decide ((burst : Int) > 4096)) = false, (decide ((rate : Int) < 0)) = false, (decide ((rate : Int) > 4096)) = false, (decide ((((l.length : Nat) : Int) : Int) > 200)) = false] (by kernel_rfl) ⟨b101_2, b101_6, b101_10, b101_14, b101_e0, trivial⟩ ?_
            obtain ⟨r107_0, cr107_0, h⟩ := bindS h
            refine At.step hm ht ⟨[(2, .call [] [] (f21_bucket_New_out r107_0))], [], [], [0, 1, 2, 7], [2]⟩ 4 ⟨[(0, .one (.c (.d (.int .i64 burst)))), (1, .one (.c (.d (.int .i64 rate)))), (2, .one (.c (.d (.sl (.int .i64) l)))), (7, .one (.c (.ptr 0 0)))], [], [(0, [.d (.int .i64 r107_0.1), .d (.int .i64 r107_0.2.1), .d (.int .i64 r107_0.2.2)])], 1⟩ [FnOK Go.Proofs.Try.prog 21 (f21_bucket_New_in burst rate) (f21_bucket_New_out r107_0)] (by kernel_rfl) ⟨(f21_bucket_New_ok burst rate r107_0 cr107_0), trivial⟩ ?_
            refine At.step hm ht ⟨[], [false], [], [0, 1, 2, 7], [0]⟩ 6 ⟨[(0, .one (.c (.d (.int .i64 burst)))), (1, .one (.c (.d (.int .i64 rate)))), (2, .one (.c (.d (.sl (.int .i64) l)))), (7, .one (.c (.ptr 0 0)))], [], [(0, [.d (.int .i64 r107_0.1), .d (.int .i64 r107_0.2.1), .d (.int .i64 r107_0.2.2)])], 1⟩ [false = false] (by kernel_rfl) ⟨rfl, trivial⟩ ?_
            refine At.step hm ht ⟨[], [], [], [0, 1, 2, 7, 8], [0]⟩ 7 ⟨[(0, .one (.c (.d (.int .i64 burst)))), (1, .one (.c (.d (.int .i64 rate)))), (2, .one (.c (.d (.sl (.int .i64) l)))), (7, .one (.c (.ptr 0 0))), (8, .one (.c (.d (.sl .unit []))))], [], [(0, [.d (.int .i64 r107_0.1), .d (.int .i64 r107_0.2.1), .d (.int .i64 r107_0.2.2)])], 1⟩ [] (by kernel_rfl) trivial ?_
            refine At.step hm ht ⟨[], [], [.nil false 8 0 (.int .i64) (some 3)], [0, 1, 2, 7, 8, 9], [0, 2]⟩ 8 ⟨[(0, .one (.c (.d (.int .i64 burst)))), (1, .one (.c (.d (.int .i64 rate)))), (2, .one (.c (.d (.sl (.int .i64) l)))), (7, .one (.c (.ptr 0 0))), (8, .one (.c (.own 1 (.int .i64) []))), (9, .one (.c (.d (.int .i64 0))))], [(1, some ⟨3, 0⟩)], [(0, [.d (.int .i64 r107_0.1), .d (.int .i64 r107_0.2.1), .d (.int .i64 r107_0.2.2)])], 2⟩ [] (by kernel_rfl) trivial ?_
            obtain ⟨w124, cw124, h⟩ := bindS h
            refine f5_broughamlaw11_BucketBound_L8_ok n burst rate l [] 0 r107_0.1 r107_0.2.1 r107_0.2.2 w124 cw124 _ ?_
            show At Go.Proofs.Try.prog Go.Proofs.Try.f5 0 18 ⟨[(0, .one (.c (.d (.int .i64 w124.1)))), (1, .one (.c (.d (.int .i64 w124.2.1)))), (8, .one (.c (.own 0 (.int .i64) w124.2.2)))], [(0, some ⟨3, 0⟩)], [], 1⟩ _
            refine At.step hm ht ⟨[], [], [], [0, 1, 8, 12], [0]⟩ 19 ⟨[(0, .one (.c (.d (.int .i64 w124.1)))), (1, .one (.c (.d (.int .i64 w124.2.1)))), (8, .one (.c (.own 0 (.int .i64) w124.2.2))), (12, .one (.c (.d (.int .i64 0))))], [(0, some ⟨3, 0⟩)], [], 1⟩ [] (by kernel_rfl) trivial ?_
            obtain ⟨w139, cw139, h⟩ := bindS h
            refine f5_broughamlaw11_BucketBound_L19_ok n w124.1 w124.2.1 w124.2.2 0 w139 cw139 _ ?_
            rcases w139 with e140 | e141
            · have h := Option.some.inj h
              subst h
              rfl
            · show At Go.Proofs.Try.prog Go.Proofs.Try.f5 0 28 ⟨[], [], [], 0⟩ _
              obtain ⟨r142_0, cr142_0, h⟩ := bindS h
              have h := Option.some.inj h
              subst h
              exact At.fin hm ht ⟨[(0, .call [] [] (f28_broughamlaw11_alive_out r142_0))], [], [], [6], []⟩ [FnOK Go.Proofs.Try.prog 28 (f28_broughamlaw11_alive_in) (f28_broughamlaw11_alive_out r142_0)] (by kernel_rfl) ⟨(f28_broughamlaw11_alive_ok r142_0 cr142_0), trivial⟩
end Go.Proofs.YtjmebloeodcoaaaF11
