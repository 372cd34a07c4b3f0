/- JudgeMoves: a path's numbers and a segment's, all moved by the same way round, are judged alike: of the functions that text F15 prints. Conditions: none. -/
import Derived.Test.YtdcnjkjgmagjmaaPureJudgeDecides
namespace Go.Proofs.YtdcnjkjgmagjmaaF15
open Go Zed
set_option linter.unusedVariables false
set_option linter.unusedSimpArgs false

def mv (x b : Int) : Int := (x + b) % 4294967296
theorem mv_eq (x y b : Int) (hx : U32 x) (hy : U32 y) : (mv x b == mv y b) = (x == y) := by
  obtain ⟨a, c⟩ := hx; obtain ⟨d, e⟩ := hy
  unfold mv
  rw [Bool.eq_iff_iff, beq_iff_eq, beq_iff_eq]; omega
theorem mv_wi (x f b s : Int) : wi (mv x b) (mv f b) s = wi x f s := by
  unfold wi mv
  have : ((x + b) % 4294967296 - (f + b) % 4294967296) % 4294967296 = (x - f) % 4294967296 := by omega
  rw [this]
theorem mv_be (x f t b : Int) (hx : U32 x) (hf : U32 f) : be (mv x b) (mv f b) (mv t b) = be x f t := by
  have h1 : (mv x b != mv f b) = (x != f) := by simp only [bne, mv_eq x f b hx hf]
  unfold be di
  rw [h1]
  unfold mv
  have e1 : ((x + b) % 4294967296 - (f + b) % 4294967296) % 4294967296 = (x - f) % 4294967296 := by omega
  have e2 : ((t + b) % 4294967296 - (f + b) % 4294967296) % 4294967296 = (t - f) % 4294967296 := by omega
  rw [e1, e2]
theorem mv_next (x y b : Int) (hx : U32 x) (hy : U32 y) : (mv x b == (mv y b + 1) % 4294967296) = (x == (y + 1) % 4294967296) := by
  obtain ⟨a, c⟩ := hx; obtain ⟨d, e⟩ := hy
  unfold mv
  rw [Bool.eq_iff_iff, beq_iff_eq, beq_iff_eq]; omega
theorem mv_next2 (x y b : Int) (hx : U32 x) (hy : U32 y) : ((mv x b + 1) % 4294967296 == mv y b) = ((x + 1) % 4294967296 == y) := by
  obtain ⟨a, c⟩ := hx; obtain ⟨d, e⟩ := hy
  unfold mv
  rw [Bool.eq_iff_iff, beq_iff_eq, beq_iff_eq]; omega

theorem JudgeMoves (n : Int × Int × Int × Int × Int) (h0 : K.ok (.pair (.int .i64) (.pair (.int .u32) (.pair (.int .u32) (.pair (.int .u32) (.int .u32))))) n)
    (s : Int × Int × Int × Int × Int × List (Int × List Int) × List Int) (h1 : K.ok (.pair (.int .u16) (.pair (.int .u16) (.pair (.int .u32) (.pair (.int .u32) (.pair (.int .u8) (.pair (.slice (.pair (.int .u8) (.slice (.int .u8)))) (.slice (.int .u8)))))))) s)
    (b : Int × Int × Bool) (h2 : K.ok (.pair (.int .u32) (.pair (.int .u32) .bool)) b) :
    f6_broughamlaw15_JudgeMoves n.1 n.2.1 n.2.2.1 n.2.2.2.1 n.2.2.2.2 s.1 s.2.1 s.2.2.1 s.2.2.2.1 s.2.2.2.2.1 s.2.2.2.2.2.1 s.2.2.2.2.2.2 b.1 b.2.1 b.2.2 = some true := by
  obtain ⟨n0, n1, n2, n3, n4⟩ := n
  obtain ⟨s0, s1, s2, s3, s4, s5, s6⟩ := s
  obtain ⟨m, t, sealed_⟩ := b
  obtain ⟨_, a1, a2, a3, a4⟩ := h0
  obtain ⟨_, _, b2, b3, b4, _⟩ := h1
  have c1 : U32 n1 := ok_u32 a1; have c2 : U32 n2 := ok_u32 a2; have c3 : U32 n3 := ok_u32 a3; have c4 : U32 n4 := ok_u32 a4; have d2 : U32 s2 := ok_u32 b2; have d3 : U32 s3 := ok_u32 b3; have d4 := ok_u8 b4
  show f6_broughamlaw15_JudgeMoves n0 n1 n2 n3 n4 s0 s1 s2 s3 s4 s5 s6 m t sealed_ = some true
  simp only [f6_broughamlaw15_JudgeMoves, judge_is _ _ _ _ _ _ _ _ _ _ _ _ _ d4, Option.bind_some, alive_is, w_u32]
  have q1 := mv_next s3 n1 m d3 c1
  have q2 := mv_eq s2 n4 t d2 c4
  have q3 := mv_wi s2 n4 t 1048576
  have q4 := mv_next2 s2 n4 t d2 c4
  have q5 : su (mv n2 m) (mv n3 m) (mv n4 t) (mv s2 t) (mv s3 m) s4 sealed_ = su n2 n3 n4 s2 s3 s4 sealed_ := by
    unfold su near
    rw [mv_wi, mv_wi, mv_wi, mv_eq s3 n2 m d3 c2, mv_be s3 n2 n3 m d3 c2]
  simp only [mv] at q1 q2 q3 q4 q5
  simp only [q1, q2, q3, q4, q5, beq_self_eq_true, if_true]
end Go.Proofs.YtdcnjkjgmagjmaaF15
