/- JudgeBlind: of a path that is there a segment that is not sealed is never looked at: of the functions that text F15 prints. Conditions: none. -/
import Derived.Test.YtdcnjkjgmagjmaaPureJudgeDecides
namespace Go.Proofs.YtdcnjkjgmagjmaaF15
open Go Zed
set_option linter.unusedVariables false
set_option linter.unusedSimpArgs false

theorem J_blind (f1 f2 f4 o1 o2 sy e wn e1 : Bool) : J 3 f1 f2 f4 o1 o2 sy e wn e1 false ≠ 1 ∧ (f4 = true → ((J 3 f1 f2 f4 o1 o2 sy e wn e1 false == 4) = e)) ∧ (f4 = false → ((J 3 f1 f2 f4 o1 o2 sy e wn e1 false == 4) = false)) := by
  cases f4 <;> cases e <;> cases wn <;> cases f1 <;> simp [J]

theorem JudgeBlind (n : Int × Int × Int × Int × Int) (h0 : K.ok (.pair (.int .i64) (.pair (.int .u32) (.pair (.int .u32) (.pair (.int .u32) (.int .u32))))) n)
    (s : Int × Int × Int × Int × Int × List (Int × List Int) × List Int) (h1 : K.ok (.pair (.int .u16) (.pair (.int .u16) (.pair (.int .u32) (.pair (.int .u32) (.pair (.int .u8) (.pair (.slice (.pair (.int .u8) (.slice (.int .u8)))) (.slice (.int .u8)))))))) s) :
    f5_broughamlaw15_JudgeBlind n.1 n.2.1 n.2.2.1 n.2.2.2.1 n.2.2.2.2 s.1 s.2.1 s.2.2.1 s.2.2.2.1 s.2.2.2.2.1 s.2.2.2.2.2.1 s.2.2.2.2.2.2 = some true := by
  obtain ⟨n0, n1, n2, n3, n4⟩ := n
  obtain ⟨s0, s1, s2, s3, s4, s5, s6⟩ := s
  obtain ⟨_, _, b2, b3, b4, _⟩ := h1
  have d4 := ok_u8 b4
  show f5_broughamlaw15_JudgeBlind n0 n1 n2 n3 n4 s0 s1 s2 s3 s4 s5 s6 = some true
  have hsu : su n2 n3 n4 s2 s3 s4 false = false := by simp [su]
  simp only [f5_broughamlaw15_JudgeBlind, judge_is _ _ _ _ _ _ _ _ _ _ _ _ _ d4, hsu, Option.bind_some, alive_is]
  obtain ⟨q1, q2, q3⟩ := J_blind (fl s4 1) (fl s4 2) (fl s4 4) (s4 == 1) (s4 == 2) (s3 == (n1 + 1) % 4294967296) (s2 == n4) (wi s2 n4 1048576) ((s2 + 1) % 4294967296 == n4)
  generalize J 3 (fl s4 1) (fl s4 2) (fl s4 4) (s4 == 1) (s4 == 2) (s3 == (n1 + 1) % 4294967296) (s2 == n4) (wi s2 n4 1048576) ((s2 + 1) % 4294967296 == n4) false = j at *
  have q1' : (j != 1) = true := by simpa using q1
  have d4a : 0 ≤ s4 := d4.1
  have d4b : s4 < 256 := d4.2
  simp only [q1', if_true]
  split
  · rename_i h4; simp only [ge_iff_le, decide_eq_true_eq] at h4
    split
    · rename_i h8; simp only [decide_eq_true_eq] at h8
      have hf : fl s4 4 = true := by simp [fl]; omega
      rw [q2 hf]; simp
    · rename_i h8; simp only [decide_eq_true_eq] at h8
      rw [if_pos (by simp; omega)]
  · rename_i h4; simp only [ge_iff_le, decide_eq_true_eq] at h4
    have hf : fl s4 4 = false := by simp [fl]; omega
    rw [q3 hf]
    split <;> simp
end Go.Proofs.YtdcnjkjgmagjmaaF15
