/- FlowSegments: the segments that a path sends: of the functions that text F21s prints. Conditions: none. -/
import Derived.Test.YtdcnjkjgmagjmaaF21s
import Derived.Test.YtdcnjkjgmagjmaaZedPb
namespace Go.Proofs.YtdcnjkjgmagjmaaF21s
open Go Zed
set_option linter.unusedVariables false
set_option linter.unusedSimpArgs false

theorem alive_is : f22_broughamlaw21_alive = some true := by kernel_rfl
theorem sameOpt (o : Int) (b : List Int) : f62_broughamref07_SameOption o b o b = some true := by
  unfold f62_broughamref07_SameOption
  rw [if_pos (by simp), str_refl]
theorem sameLoop (a0 a1 a2 a3 a4 : Int) (l : List (Int × List Int)) (d : List Int) (hl : l.length ≤ 1000) : ∀ (m i : Nat), i + m = l.length → Ev (fun n => f15_broughamref07_Same_L4 n (i : Int) a0 a1 a2 a3 a4 l d a0 a1 a2 a3 a4 l d) (fun r => r = .inr ())
  | 0, i, hi => by
    apply Ev.succ
    simp only [f15_broughamref07_Same_L4]
    exact Ev.neg (by simp; omega) (Ev.some rfl)
  | m + 1, i, hi => by
    apply Ev.succ
    simp only [f15_broughamref07_Same_L4]
    refine Ev.pos (by simp; omega) (Ev.guard (by omega) (Ev.guard (by omega) ?_))
    refine Ev.bind (Ev.of (sameOpt _ _) rfl) ?_
    rintro _ rfl
    refine Ev.neg (by simp) ?_
    rw [show IntKind.wrap .i64 ((i : Int) + 1) = ((i + 1 : Nat) : Int) by rw [i64_id] <;> omega]
    exact sameLoop a0 a1 a2 a3 a4 l d hl m (i + 1) (by omega)
theorem same_is (a0 a1 a2 a3 a4 : Int) (l : List (Int × List Int)) (d : List Int) (hl : l.length ≤ 1000) : Ev (fun n => f15_broughamref07_Same n a0 a1 a2 a3 a4 l d a0 a1 a2 a3 a4 l d) (fun r => r = true) := by
  unfold f15_broughamref07_Same
  refine Ev.neg (by simp) (Ev.neg (by simp) (Ev.neg (by simp) (Ev.neg (by simp) (Ev.neg (by simp) (Ev.neg (by simp) (Ev.neg (by simp) ?_))))))
  refine Ev.bind (sameLoop a0 a1 a2 a3 a4 l d hl l.length 0 (by omega)) ?_
  rintro _ rfl
  exact Ev.some rfl

theorem FlowSegments (m : Int × Int × Int × Int × (Int × Int × Int) × Int × Int × Int × Bool) (h0 : K.ok (.pair (.int .u32) (.pair (.int .u32) (.pair (.int .u32) (.pair (.int .u32) (.pair (.pair (.int .i64) (.pair (.int .u16) (.int .u16))) (.pair (.int .i64) (.pair (.int .u32) (.pair (.int .u32) .bool)))))))) m) (o : Int × List Int) (h1 : K.ok (.pair (.int .u8) (.slice (.int .u8))) o) (data : List Int) (h2 : K.ok (.slice (.int .u8)) data) : ∃ n, f3_broughamlaw21_FlowSegments n m.1 m.2.1 m.2.2.1 m.2.2.2.1 m.2.2.2.2.1.1 m.2.2.2.2.1.2.1 m.2.2.2.2.1.2.2 m.2.2.2.2.2.1 m.2.2.2.2.2.2.1 m.2.2.2.2.2.2.2.1 m.2.2.2.2.2.2.2.2 o.1 o.2 data = some true := by
  obtain ⟨m0, m1, m2, m3, ⟨m4, m5, m6⟩, m7, m8, m9, m10⟩ := m
  obtain ⟨o0, o1⟩ := o
  apply Ev.true
  unfold f3_broughamlaw21_FlowSegments
  dsimp only
  refine Ev.ite (fun _ => Ev.some rfl) fun a1 => Ev.ite (fun _ => Ev.some rfl) fun a2 => ?_
  refine Ev.bind (Ev.of rfl rfl) ?_
  rintro _ rfl
  dsimp only
  refine Ev.bind (Ev.of rfl rfl) ?_
  rintro _ rfl
  dsimp only
  refine Ev.bind (same_is _ _ _ _ _ _ _ (by simp)) ?_
  rintro _ rfl
  refine Ev.pos rfl ?_
  refine Ev.bind (Ev.of rfl rfl) ?_
  rintro _ rfl
  dsimp only
  refine Ev.bind (same_is _ _ _ _ _ _ _ (by simp)) ?_
  rintro _ rfl
  refine Ev.pos rfl ?_
  refine Ev.bind (Ev.of rfl rfl) ?_
  rintro _ rfl
  dsimp only
  refine Ev.bind (same_is _ _ _ _ _ _ _ (by simp)) ?_
  rintro _ rfl
  refine Ev.pos rfl ?_
  refine Ev.bind (Ev.of rfl rfl) ?_
  rintro _ rfl
  dsimp only
  refine Ev.bind (same_is _ _ _ _ _ _ _ (by simp)) ?_
  rintro _ rfl
  refine Ev.pos rfl ?_
  refine Ev.bind (Ev.of rfl rfl) ?_
  rintro _ rfl
  dsimp only
  refine Ev.pos (by simp only [beq_self_eq_true, Bool.and_self]) ?_
  refine Ev.bind (Ev.of rfl rfl) ?_
  rintro _ rfl
  dsimp only
  refine Ev.pos (by simp only [beq_self_eq_true, Bool.and_self]) ?_
  refine Ev.bind (Ev.of alive_is rfl) ?_
  rintro _ rfl
  exact Ev.some rfl
end Go.Proofs.YtdcnjkjgmagjmaaF21s
