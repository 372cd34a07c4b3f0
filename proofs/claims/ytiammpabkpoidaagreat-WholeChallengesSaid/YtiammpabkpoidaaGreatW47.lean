/- Texts KM1 of our own machine for the walk of WholeChallenges, one behind the other. -/
import Derived.Test.YtiammpabkpoidaaGreatW38
import Derived.Test.YtiammpabkpoidaaGreatW44
import Derived.Test.YtiammpabkpoidaaGreatW46
namespace Zed
open Go
set_option maxRecDepth 100000
set_option linter.unusedVariables false
set_option linter.unusedSimpArgs false
theorem parA_s0 (p : Pa) : (parA (innA noPost [] p)).s0 = p.s0 := by kernel_rfl
theorem parA_q0 (p : Pa) : (parA (innA noPost [] p)).q0 = p.q0 := by kernel_rfl
theorem parA_i0 (p : Pa) : (parA (innA noPost [] p)).i0 = p.i0 := by kernel_rfl
theorem parA_j0 (p : Pa) : (parA (innA noPost [] p)).j0 = p.j0 := by kernel_rfl
theorem parA_cr (p : Pa) : (parA (innA noPost [] p)).cr = p.cr := by kernel_rfl
theorem parA_cb (p : Pa) : (parA (innA noPost [] p)).cb = p.cb := by kernel_rfl
theorem parB_s1 (p : Pa) : (parB (innB noPost [] p)).s1 = p.s1 := by kernel_rfl
theorem parB_q1 (p : Pa) : (parB (innB noPost [] p)).q1 = p.q1 := by kernel_rfl
theorem parB_i1 (p : Pa) : (parB (innB noPost [] p)).i1 = p.i1 := by kernel_rfl
theorem parB_cr (p : Pa) : (parB (innB noPost [] p)).cr = p.cr := by kernel_rfl
theorem parB_cb (p : Pa) : (parB (innB noPost [] p)).cb = p.cb := by kernel_rfl
theorem wI_id {n : Int} (h1 : -1000000 ≤ n) (h2 : n ≤ 1000000) : wI n = n := by
  unfold wI
  rw [wrapE_eq, IntKind.wrap_i64]
  omega
theorem wS_id {n : Int} (h1 : -1000000 ≤ n) (h2 : n ≤ 1000000) : wS n = n := by
  unfold wS
  rw [IntKind.wrap_i64]
  omega
theorem wI1 {n : Int} (h1 : 0 ≤ n) (h2 : n ≤ 1000) : wI (n + 1) = n + 1 := wI_id (by omega) (by omega)
theorem mn4 {n : Int} (h1 : 0 ≤ n) (h2 : n ≤ 1000) : mnI (wI (n + 1)) 4096 = n + 1 := by
  rw [wI1 h1 h2]; unfold mnI; rw [if_neg (by omega)]
theorem mn16 {n : Int} (h1 : 0 ≤ n) (h2 : n ≤ 1000) : mnI (wI (n + 1)) 16384 = n + 1 := by
  rw [wI1 h1 h2]; unfold mnI; rw [if_neg (by omega)]
theorem tk_new {tk cr cb : Int} (h1 : 0 ≤ tk) (h2 : tk ≤ 20) (h3 : 0 ≤ cr) (h4 : cr ≤ 20) : mnI (wS (tk + wS (1 * cr))) cb = if cb < tk + cr then cb else tk + cr := by
  rw [Int.one_mul, wS_id (n := cr) (by omega) (by omega), wS_id (by omega) (by omega)]; rfl
/-- How long no word came, ahead of a tick. -/
structure Sb (p : Pa) : Prop where
  s0 : p.s0 ≤ 19
  q0 : p.q0 ≤ 19
  s1 : p.s1 ≤ 19
  q1 : p.q1 ≤ 19
structure Tk (p p' : Pa) : Prop where
  ch : p'.ch = p.ch
  cb : p'.cb = p.cb
  cr : p'.cr = p.cr
  j0 : 0 ≤ p'.j0 ∧ p'.j0 ≤ 15
  tk : p'.tk = if p.cb < p.tk + p.cr then p.cb else p.tk + p.cr
theorem tick_ok (w : List Kd) (p : Pa) (hW : p.W = w.map pkOf) (hv : Vb w p) (hs : Sb p) (hj : 0 ≤ p.j0 ∧ p.j0 ≤ 15) (hl : w.length < 200) (hG : p.G.length < 900000) (hcr : 0 ≤ p.cr ∧ p.cr ≤ 20) (ht : 0 ≤ p.tk ∧ p.tk ≤ 20) :
    ∃ w' p', p'.W = w'.map pkOf ∧ Vb w' p' ∧ Tk p p' ∧ p'.G.length ≤ p.G.length + 2 ∧ wt w' ≤ wt w + 4 ∧ (FnOK Pr 13 (innN [] p) (oK0 p') ∨ FnOK Pr 13 (innN [] p) (oK1 p')) := by
  obtain ⟨v1, v2, v3, v4, v5, v6, v7, v8⟩ := hv
  obtain ⟨u1, u2, u3, u4⟩ := hs
  have hlen : p.W.length < 200 := by rw [hW, List.length_map]; exact hl
  by_cases d0 : p.i0 = 19 <;> by_cases d1 : p.i1 = 19 <;> by_cases dj : p.j0 = 15
  · -- T111
    have e1 : (stT111 p).s0 = p.s0 + 1 := wI1 v3.1 (by omega)
    have e2 : (stT111 p).q0 = p.q0 + 1 := mn16 v4.1 (by omega)
    have e3 : (stT111 p).s1 = p.s1 + 1 := wI1 v5.1 (by omega)
    have e4 : (stT111 p).q1 = p.q1 + 1 := mn16 v6.1 (by omega)
    have e5 : (stT111 p).i0 = 0 := rfl
    have e6 : (stT111 p).i1 = 0 := rfl
    have e7 : (stT111 p).j0 = 0 := rfl
    have e8 : (stT111 p).tk = if p.cb < p.tk + p.cr then p.cb else p.tk + p.cr := tk_new ht.1 ht.2 hcr.1 hcr.2
    have c : AllC (condT111 p) := by
      simp only [condT111, condFT111, condA11, condB1, hostAT111, hostBT111, List.nil_append, List.cons_append, AllC, parA_s0, parA_q0, parA_i0, parA_j0, parB_s1, parB_q1, parB_i1, wI1 v3.1 (by omega), wI1 v5.1 (by omega), mn16 v4.1 (by omega), mn16 v6.1 (by omega), mn4 v1.1 (by omega), mn4 v2.1 (by omega), wI1 hj.1 (by omega), List.length_append, List.length_cons, List.length_nil, maxLen, decide_eq_true_eq, decide_eq_false_iff_not, Nat.reducePow, Nat.reduceSub]
      repeat' apply And.intro
      all_goals first | trivial | omega
    have ok := okT111 p c
    refine ⟨((w ++ [.b]) ++ [.c]), stT111 p, ?_, ⟨?_, ?_, ?_, ?_, ?_, ?_, ?_, ?_⟩, ⟨rfl, rfl, rfl, ?_, e8⟩, ?_, ?_, .inr ok⟩
    · show (p.W ++ [pkB]) ++ [pkC] = _
      rw [hW]; simp [pkOf]
    · rw [e5]; omega
    · rw [e6]; omega
    · rw [e1]; omega
    · rw [e2]; omega
    · rw [e3]; omega
    · rw [e4]; omega
    · right; simp [to0]
    · right; simp [to1]
    · rw [e7]; omega
    · show ((p.G ++ [pkB]) ++ [pkC]).length ≤ _
      simp
    · simp [wt_append, wt, wtK]
  · -- T110
    have e1 : (stT110 p).s0 = p.s0 + 1 := wI1 v3.1 (by omega)
    have e2 : (stT110 p).q0 = p.q0 + 1 := mn16 v4.1 (by omega)
    have e3 : (stT110 p).s1 = p.s1 + 1 := wI1 v5.1 (by omega)
    have e4 : (stT110 p).q1 = p.q1 + 1 := mn16 v6.1 (by omega)
    have e5 : (stT110 p).i0 = 0 := rfl
    have e6 : (stT110 p).i1 = 0 := rfl
    have e7 : (stT110 p).j0 = p.j0 + 1 := wI1 hj.1 (by omega)
    have e8 : (stT110 p).tk = if p.cb < p.tk + p.cr then p.cb else p.tk + p.cr := tk_new ht.1 ht.2 hcr.1 hcr.2
    have c : AllC (condT110 p) := by
      simp only [condT110, condFT110, condA10, condB1, hostAT110, hostBT110, List.nil_append, List.cons_append, AllC, parA_s0, parA_q0, parA_i0, parA_j0, parB_s1, parB_q1, parB_i1, wI1 v3.1 (by omega), wI1 v5.1 (by omega), mn16 v4.1 (by omega), mn16 v6.1 (by omega), mn4 v1.1 (by omega), mn4 v2.1 (by omega), wI1 hj.1 (by omega), List.length_append, List.length_cons, List.length_nil, maxLen, decide_eq_true_eq, decide_eq_false_iff_not, Nat.reducePow, Nat.reduceSub]
      repeat' apply And.intro
      all_goals first | trivial | omega
    have ok := okT110 p c
    refine ⟨((w ++ [.b]) ++ [.c]), stT110 p, ?_, ⟨?_, ?_, ?_, ?_, ?_, ?_, ?_, ?_⟩, ⟨rfl, rfl, rfl, ?_, e8⟩, ?_, ?_, .inr ok⟩
    · show (p.W ++ [pkB]) ++ [pkC] = _
      rw [hW]; simp [pkOf]
    · rw [e5]; omega
    · rw [e6]; omega
    · rw [e1]; omega
    · rw [e2]; omega
    · rw [e3]; omega
    · rw [e4]; omega
    · right; simp [to0]
    · right; simp [to1]
    · rw [e7]; omega
    · show ((p.G ++ [pkB]) ++ [pkC]).length ≤ _
      simp
    · simp [wt_append, wt, wtK]
  · -- T101
    have e1 : (stT101 p).s0 = p.s0 + 1 := wI1 v3.1 (by omega)
    have e2 : (stT101 p).q0 = p.q0 + 1 := mn16 v4.1 (by omega)
    have e3 : (stT101 p).s1 = p.s1 + 1 := wI1 v5.1 (by omega)
    have e4 : (stT101 p).q1 = p.q1 + 1 := mn16 v6.1 (by omega)
    have e5 : (stT101 p).i0 = 0 := rfl
    have e6 : (stT101 p).i1 = p.i1 + 1 := mn4 v2.1 (by omega)
    have e7 : (stT101 p).j0 = 0 := rfl
    have e8 : (stT101 p).tk = if p.cb < p.tk + p.cr then p.cb else p.tk + p.cr := tk_new ht.1 ht.2 hcr.1 hcr.2
    have c : AllC (condT101 p) := by
      simp only [condT101, condFT101, condA11, condB0, hostAT101, hostBT101, List.nil_append, List.cons_append, AllC, parA_s0, parA_q0, parA_i0, parA_j0, parB_s1, parB_q1, parB_i1, wI1 v3.1 (by omega), wI1 v5.1 (by omega), mn16 v4.1 (by omega), mn16 v6.1 (by omega), mn4 v1.1 (by omega), mn4 v2.1 (by omega), wI1 hj.1 (by omega), List.length_append, List.length_cons, List.length_nil, maxLen, decide_eq_true_eq, decide_eq_false_iff_not, Nat.reducePow, Nat.reduceSub]
      repeat' apply And.intro
      all_goals first | trivial | omega
    have ok := okT101 p c
    refine ⟨(w ++ [.b]), stT101 p, ?_, ⟨?_, ?_, ?_, ?_, ?_, ?_, ?_, ?_⟩, ⟨rfl, rfl, rfl, ?_, e8⟩, ?_, ?_, .inr ok⟩
    · show p.W ++ [pkB] = _
      rw [hW]; simp [pkOf]
    · rw [e5]; omega
    · rw [e6]; omega
    · rw [e1]; omega
    · rw [e2]; omega
    · rw [e3]; omega
    · rw [e4]; omega
    · rw [e1, e2, e6]
      rcases v7 with h | h
      · left; omega
      · right; simpa [to0] using h
    · right; simp [to1]
    · rw [e7]; omega
    · show (p.G ++ [pkB]).length ≤ _
      simp
    · simp [wt_append, wt, wtK]
  · -- T100
    have e1 : (stT100 p).s0 = p.s0 + 1 := wI1 v3.1 (by omega)
    have e2 : (stT100 p).q0 = p.q0 + 1 := mn16 v4.1 (by omega)
    have e3 : (stT100 p).s1 = p.s1 + 1 := wI1 v5.1 (by omega)
    have e4 : (stT100 p).q1 = p.q1 + 1 := mn16 v6.1 (by omega)
    have e5 : (stT100 p).i0 = 0 := rfl
    have e6 : (stT100 p).i1 = p.i1 + 1 := mn4 v2.1 (by omega)
    have e7 : (stT100 p).j0 = p.j0 + 1 := wI1 hj.1 (by omega)
    have e8 : (stT100 p).tk = if p.cb < p.tk + p.cr then p.cb else p.tk + p.cr := tk_new ht.1 ht.2 hcr.1 hcr.2
    have c : AllC (condT100 p) := by
      simp only [condT100, condFT100, condA10, condB0, hostAT100, hostBT100, List.nil_append, List.cons_append, AllC, parA_s0, parA_q0, parA_i0, parA_j0, parB_s1, parB_q1, parB_i1, wI1 v3.1 (by omega), wI1 v5.1 (by omega), mn16 v4.1 (by omega), mn16 v6.1 (by omega), mn4 v1.1 (by omega), mn4 v2.1 (by omega), wI1 hj.1 (by omega), List.length_append, List.length_cons, List.length_nil, maxLen, decide_eq_true_eq, decide_eq_false_iff_not, Nat.reducePow, Nat.reduceSub]
      repeat' apply And.intro
      all_goals first | trivial | omega
    have ok := okT100 p c
    refine ⟨(w ++ [.b]), stT100 p, ?_, ⟨?_, ?_, ?_, ?_, ?_, ?_, ?_, ?_⟩, ⟨rfl, rfl, rfl, ?_, e8⟩, ?_, ?_, .inr ok⟩
    · show p.W ++ [pkB] = _
      rw [hW]; simp [pkOf]
    · rw [e5]; omega
    · rw [e6]; omega
    · rw [e1]; omega
    · rw [e2]; omega
    · rw [e3]; omega
    · rw [e4]; omega
    · rw [e1, e2, e6]
      rcases v7 with h | h
      · left; omega
      · right; simpa [to0] using h
    · right; simp [to1]
    · rw [e7]; omega
    · show (p.G ++ [pkB]).length ≤ _
      simp
    · simp [wt_append, wt, wtK]
  · -- T011
    have e1 : (stT011 p).s0 = p.s0 + 1 := wI1 v3.1 (by omega)
    have e2 : (stT011 p).q0 = p.q0 + 1 := mn16 v4.1 (by omega)
    have e3 : (stT011 p).s1 = p.s1 + 1 := wI1 v5.1 (by omega)
    have e4 : (stT011 p).q1 = p.q1 + 1 := mn16 v6.1 (by omega)
    have e5 : (stT011 p).i0 = p.i0 + 1 := mn4 v1.1 (by omega)
    have e6 : (stT011 p).i1 = 0 := rfl
    have e7 : (stT011 p).j0 = 0 := rfl
    have e8 : (stT011 p).tk = if p.cb < p.tk + p.cr then p.cb else p.tk + p.cr := tk_new ht.1 ht.2 hcr.1 hcr.2
    have c : AllC (condT011 p) := by
      simp only [condT011, condFT011, condA01, condB1, hostAT011, hostBT011, List.nil_append, List.cons_append, AllC, parA_s0, parA_q0, parA_i0, parA_j0, parB_s1, parB_q1, parB_i1, wI1 v3.1 (by omega), wI1 v5.1 (by omega), mn16 v4.1 (by omega), mn16 v6.1 (by omega), mn4 v1.1 (by omega), mn4 v2.1 (by omega), wI1 hj.1 (by omega), List.length_append, List.length_cons, List.length_nil, maxLen, decide_eq_true_eq, decide_eq_false_iff_not, Nat.reducePow, Nat.reduceSub]
      repeat' apply And.intro
      all_goals first | trivial | omega
    have ok := okT011 p c
    refine ⟨(w ++ [.c]), stT011 p, ?_, ⟨?_, ?_, ?_, ?_, ?_, ?_, ?_, ?_⟩, ⟨rfl, rfl, rfl, ?_, e8⟩, ?_, ?_, .inr ok⟩
    · show p.W ++ [pkC] = _
      rw [hW]; simp [pkOf]
    · rw [e5]; omega
    · rw [e6]; omega
    · rw [e1]; omega
    · rw [e2]; omega
    · rw [e3]; omega
    · rw [e4]; omega
    · right; simp [to0]
    · rw [e3, e4, e5]
      rcases v8 with h | h
      · left; omega
      · right; simpa [to1] using h
    · rw [e7]; omega
    · show (p.G ++ [pkC]).length ≤ _
      simp
    · simp [wt_append, wt, wtK]
  · -- T010
    have e1 : (stT010 p).s0 = p.s0 + 1 := wI1 v3.1 (by omega)
    have e2 : (stT010 p).q0 = p.q0 + 1 := mn16 v4.1 (by omega)
    have e3 : (stT010 p).s1 = p.s1 + 1 := wI1 v5.1 (by omega)
    have e4 : (stT010 p).q1 = p.q1 + 1 := mn16 v6.1 (by omega)
    have e5 : (stT010 p).i0 = p.i0 + 1 := mn4 v1.1 (by omega)
    have e6 : (stT010 p).i1 = 0 := rfl
    have e7 : (stT010 p).j0 = p.j0 + 1 := wI1 hj.1 (by omega)
    have e8 : (stT010 p).tk = if p.cb < p.tk + p.cr then p.cb else p.tk + p.cr := tk_new ht.1 ht.2 hcr.1 hcr.2
    have c : AllC (condT010 p) := by
      simp only [condT010, condFT010, condA00, condB1, hostAT010, hostBT010, List.nil_append, List.cons_append, AllC, parA_s0, parA_q0, parA_i0, parA_j0, parB_s1, parB_q1, parB_i1, wI1 v3.1 (by omega), wI1 v5.1 (by omega), mn16 v4.1 (by omega), mn16 v6.1 (by omega), mn4 v1.1 (by omega), mn4 v2.1 (by omega), wI1 hj.1 (by omega), List.length_append, List.length_cons, List.length_nil, maxLen, decide_eq_true_eq, decide_eq_false_iff_not, Nat.reducePow, Nat.reduceSub]
      repeat' apply And.intro
      all_goals first | trivial | omega
    have ok := okT010 p c
    refine ⟨(w ++ [.c]), stT010 p, ?_, ⟨?_, ?_, ?_, ?_, ?_, ?_, ?_, ?_⟩, ⟨rfl, rfl, rfl, ?_, e8⟩, ?_, ?_, .inr ok⟩
    · show p.W ++ [pkC] = _
      rw [hW]; simp [pkOf]
    · rw [e5]; omega
    · rw [e6]; omega
    · rw [e1]; omega
    · rw [e2]; omega
    · rw [e3]; omega
    · rw [e4]; omega
    · right; simp [to0]
    · rw [e3, e4, e5]
      rcases v8 with h | h
      · left; omega
      · right; simpa [to1] using h
    · rw [e7]; omega
    · show (p.G ++ [pkC]).length ≤ _
      simp
    · simp [wt_append, wt, wtK]
  · -- T001
    have e1 : (stT001 p).s0 = p.s0 + 1 := wI1 v3.1 (by omega)
    have e2 : (stT001 p).q0 = p.q0 + 1 := mn16 v4.1 (by omega)
    have e3 : (stT001 p).s1 = p.s1 + 1 := wI1 v5.1 (by omega)
    have e4 : (stT001 p).q1 = p.q1 + 1 := mn16 v6.1 (by omega)
    have e5 : (stT001 p).i0 = p.i0 + 1 := mn4 v1.1 (by omega)
    have e6 : (stT001 p).i1 = p.i1 + 1 := mn4 v2.1 (by omega)
    have e7 : (stT001 p).j0 = 0 := rfl
    have e8 : (stT001 p).tk = if p.cb < p.tk + p.cr then p.cb else p.tk + p.cr := tk_new ht.1 ht.2 hcr.1 hcr.2
    have c : AllC (condT001 p) := by
      simp only [condT001, condFT001, condA01, condB0, hostAT001, hostBT001, List.nil_append, List.cons_append, AllC, parA_s0, parA_q0, parA_i0, parA_j0, parB_s1, parB_q1, parB_i1, wI1 v3.1 (by omega), wI1 v5.1 (by omega), mn16 v4.1 (by omega), mn16 v6.1 (by omega), mn4 v1.1 (by omega), mn4 v2.1 (by omega), wI1 hj.1 (by omega), List.length_append, List.length_cons, List.length_nil, maxLen, decide_eq_true_eq, decide_eq_false_iff_not, Nat.reducePow, Nat.reduceSub]
      repeat' apply And.intro
      all_goals first | trivial | omega
    have ok := okT001 p c
    refine ⟨w, stT001 p, ?_, ⟨?_, ?_, ?_, ?_, ?_, ?_, ?_, ?_⟩, ⟨rfl, rfl, rfl, ?_, e8⟩, ?_, ?_, .inl ok⟩
    · show p.W = _
      rw [hW]
    · rw [e5]; omega
    · rw [e6]; omega
    · rw [e1]; omega
    · rw [e2]; omega
    · rw [e3]; omega
    · rw [e4]; omega
    · rw [e1, e2, e6]
      rcases v7 with h | h
      · left; omega
      · right; exact h
    · rw [e3, e4, e5]
      rcases v8 with h | h
      · left; omega
      · right; exact h
    · rw [e7]; omega
    · show (p.G).length ≤ _
      omega
    · omega
  · -- T000
    have e1 : (stT000 p).s0 = p.s0 + 1 := wI1 v3.1 (by omega)
    have e2 : (stT000 p).q0 = p.q0 + 1 := mn16 v4.1 (by omega)
    have e3 : (stT000 p).s1 = p.s1 + 1 := wI1 v5.1 (by omega)
    have e4 : (stT000 p).q1 = p.q1 + 1 := mn16 v6.1 (by omega)
    have e5 : (stT000 p).i0 = p.i0 + 1 := mn4 v1.1 (by omega)
    have e6 : (stT000 p).i1 = p.i1 + 1 := mn4 v2.1 (by omega)
    have e7 : (stT000 p).j0 = p.j0 + 1 := wI1 hj.1 (by omega)
    have e8 : (stT000 p).tk = if p.cb < p.tk + p.cr then p.cb else p.tk + p.cr := tk_new ht.1 ht.2 hcr.1 hcr.2
    have c : AllC (condT000 p) := by
      simp only [condT000, condFT000, condA00, condB0, hostAT000, hostBT000, List.nil_append, List.cons_append, AllC, parA_s0, parA_q0, parA_i0, parA_j0, parB_s1, parB_q1, parB_i1, wI1 v3.1 (by omega), wI1 v5.1 (by omega), mn16 v4.1 (by omega), mn16 v6.1 (by omega), mn4 v1.1 (by omega), mn4 v2.1 (by omega), wI1 hj.1 (by omega), List.length_append, List.length_cons, List.length_nil, maxLen, decide_eq_true_eq, decide_eq_false_iff_not, Nat.reducePow, Nat.reduceSub]
      repeat' apply And.intro
      all_goals first | trivial | omega
    have ok := okT000 p c
    refine ⟨w, stT000 p, ?_, ⟨?_, ?_, ?_, ?_, ?_, ?_, ?_, ?_⟩, ⟨rfl, rfl, rfl, ?_, e8⟩, ?_, ?_, .inl ok⟩
    · show p.W = _
      rw [hW]
    · rw [e5]; omega
    · rw [e6]; omega
    · rw [e1]; omega
    · rw [e2]; omega
    · rw [e3]; omega
    · rw [e4]; omega
    · rw [e1, e2, e6]
      rcases v7 with h | h
      · left; omega
      · right; exact h
    · rw [e3, e4, e5]
      rcases v8 with h | h
      · left; omega
      · right; exact h
    · rw [e7]; omega
    · show (p.G).length ≤ _
      omega
    · omega
end Zed
