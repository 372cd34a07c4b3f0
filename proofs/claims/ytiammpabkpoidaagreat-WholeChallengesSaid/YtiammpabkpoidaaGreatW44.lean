/- Texts KF1, KNStats, KNE of our own machine for the walk of WholeChallenges, one behind the other. -/
import Derived.Test.YtiammpabkpoidaaGreatW23
import Derived.Test.YtiammpabkpoidaaGreatW38
import Derived.Test.YtiammpabkpoidaaGreatW43
namespace Zed
open Go
set_option maxRecDepth 100000
set_option linter.unusedVariables false
set_option linter.unusedSimpArgs false

noncomputable abbrev Pr : Program := Go.Proofs.Tryz.prog
inductive Kd where
  | a | b | c | d
  deriving DecidableEq
noncomputable def pkOf : Kd → PK
  | .a => pkA
  | .b => pkB
  | .c => pkC
  | .d => pkD
noncomputable def wtK : Kd → Nat
  | .a => 1
  | .b => 2
  | .c => 2
  | .d => 1
noncomputable def wt : List Kd → Nat
  | [] => 0
  | k :: w => wtK k + wt w
theorem wt_append : ∀ (u v : List Kd), wt (u ++ v) = wt u + wt v
  | [], v => by simp [wt]
  | k :: u, v => by simp [wt, wt_append u v]; omega
theorem len_wt : ∀ w : List Kd, w.length ≤ wt w
  | [] => by simp [wt]
  | k :: w => by have := len_wt w; cases k <;> simp [wt, wtK] <;> omega
/-- Is anything under way to the first host? To the second one? -/
noncomputable def to0 (w : List Kd) : Prop := Kd.a ∈ w ∨ Kd.c ∈ w
noncomputable def to1 (w : List Kd) : Prop := Kd.b ∈ w ∨ Kd.d ∈ w
structure Vb (w : List Kd) (p : Pa) : Prop where
  i0 : 0 ≤ p.i0 ∧ p.i0 ≤ 19
  i1 : 0 ≤ p.i1 ∧ p.i1 ≤ 19
  s0 : 0 ≤ p.s0 ∧ p.s0 ≤ 40
  q0 : 0 ≤ p.q0 ∧ p.q0 ≤ 40
  s1 : 0 ≤ p.s1 ∧ p.s1 ≤ 40
  q1 : 0 ≤ p.q1 ∧ p.q1 ≤ 40
  h0 : (p.s0 ≤ p.i1 ∧ p.q0 ≤ p.i1) ∨ to0 w
  h1 : (p.s1 ≤ p.i0 ∧ p.q1 ≤ p.i0) ∨ to1 w
/-- What stays as it is. -/
structure Kp (p p' : Pa) : Prop where
  ch : p'.ch = p.ch
  tk : p'.tk = p.tk
  cb : p'.cb = p.cb
  cr : p'.cr = p.cr
  j0 : p'.j0 = p.j0
theorem Kp.refl (p : Pa) : Kp p p := ⟨rfl, rfl, rfl, rfl, rfl⟩
theorem Kp.trans {p q r : Pa} (h : Kp p q) (h' : Kp q r) : Kp p r := ⟨h'.ch.trans h.ch, h'.tk.trans h.tk, h'.cb.trans h.cb, h'.cr.trans h.cr, h'.j0.trans h.j0⟩

theorem fnsP : ∀ d, EvOK Pr (evalF cfFA d) := fun d => evalF_ok (cf := cfFA) hmG htG primFA_ok (fnsOf_ok hfG) d
theorem wI_add1 (n : Nat) (h : n < 1000000) : wI ((n : Int) + 1) = ((n + 1 : Nat) : Int) := by
  unfold wI
  rw [wrapE_eq, IntKind.wrap_i64]
  omega

section
variable {s : Nat} {p : Pa} {d : Nat}
theorem condA_ok (hW : p.W.length < 200) (hd : d < 100) : AllC (condFA p d) := by
  refine ⟨rfl, ?_⟩
  simp only [conddlvA, List.cons_append, List.nil_append, AllC, maxLen, List.length_cons, List.length_nil, decide_eq_true_eq, decide_eq_false_iff_not, Nat.reducePow, Nat.reduceSub]
  repeat' apply And.intro
  all_goals first | trivial | omega
theorem condD_ok (hW : p.W.length < 200) (hd : d < 100) : AllC (condFD p d) := by
  refine ⟨rfl, ?_⟩
  simp only [conddlvD, List.cons_append, List.nil_append, AllC, maxLen, List.length_cons, List.length_nil, decide_eq_true_eq, decide_eq_false_iff_not, Nat.reducePow, Nat.reduceSub]
  repeat' apply And.intro
  all_goals first | trivial | omega
theorem condB_ok (hW : p.W.length < 200) (hG : p.G.length < 1000000) (hd : d < 100) : AllC (condFB p d) := by
  refine ⟨rfl, ?_⟩
  simp only [conddlvB, List.cons_append, List.nil_append, AllC, maxLen, List.length_cons, List.length_nil, decide_eq_true_eq, decide_eq_false_iff_not, Nat.reducePow, Nat.reduceSub]
  repeat' apply And.intro
  all_goals first | trivial | omega
theorem condC_ok (hW : p.W.length < 200) (hG : p.G.length < 1000000) (hd : d < 100) : AllC (condFC p d) := by
  refine ⟨rfl, ?_⟩
  simp only [conddlvC, List.cons_append, List.nil_append, AllC, maxLen, List.length_cons, List.length_nil, decide_eq_true_eq, decide_eq_false_iff_not, Nat.reducePow, Nat.reduceSub]
  repeat' apply And.intro
  all_goals first | trivial | omega
end
noncomputable abbrev GoF (s : Nat) (p : Pa) (d : Nat) (s' : Nat) (p' : Pa) (d' : Nat) : Prop := Goes2 Pr fnF.ntmps 45 kF (TF s p (d : Int)).den kF (TF s' p' (d' : Int)).den
theorem stepA (s : Nat) (p : Pa) (d : Nat) (hs : s < 3) (hW : p.W.length < 200) (hd : d < 100) : ∃ s', s' < 3 ∧ GoF s { p with W := pkA :: p.W } d s' (stdlvA p) (d + 1) := by
  unfold GoF
  rw [← wI_add1 d (by omega)]
  match s, hs with
  | 0, _ => exact ⟨1, by omega, (runQ_ok (cf := cfFA) hmG htG (evalF_ok (cf := cfFA) hmG htG primFA_ok (fnsOf_ok hfG) 40) (goFA0 p d) (condA_ok hW hd)).2⟩
  | 1, _ => exact ⟨1, by omega, (runQ_ok (cf := cfFA) hmG htG (evalF_ok (cf := cfFA) hmG htG primFA_ok (fnsOf_ok hfG) 40) (goFA1 p d) (condA_ok hW hd)).2⟩
  | 2, _ => exact ⟨2, by omega, (runQ_ok (cf := cfFA) hmG htG (evalF_ok (cf := cfFA) hmG htG primFA_ok (fnsOf_ok hfG) 40) (goFA2 p d) (condA_ok hW hd)).2⟩
theorem stepD (s : Nat) (p : Pa) (d : Nat) (hs : s < 3) (hW : p.W.length < 200) (hd : d < 100) : ∃ s', s' < 3 ∧ GoF s { p with W := pkD :: p.W } d s' (stdlvD p) (d + 1) := by
  unfold GoF
  rw [← wI_add1 d (by omega)]
  match s, hs with
  | 0, _ => exact ⟨1, by omega, (runQ_ok (cf := cfFD) hmG htG (evalF_ok (cf := cfFD) hmG htG primFD_ok (fnsOf_ok hfG) 40) (goFD0 p d) (condD_ok hW hd)).2⟩
  | 1, _ => exact ⟨1, by omega, (runQ_ok (cf := cfFD) hmG htG (evalF_ok (cf := cfFD) hmG htG primFD_ok (fnsOf_ok hfG) 40) (goFD1 p d) (condD_ok hW hd)).2⟩
  | 2, _ => exact ⟨2, by omega, (runQ_ok (cf := cfFD) hmG htG (evalF_ok (cf := cfFD) hmG htG primFD_ok (fnsOf_ok hfG) 40) (goFD2 p d) (condD_ok hW hd)).2⟩
theorem stepB (s : Nat) (p : Pa) (d : Nat) (hs : s < 3) (hW : p.W.length < 200) (hG : p.G.length < 1000000) (hd : d < 100) : ∃ s', s' < 3 ∧ GoF s { p with W := pkB :: p.W } d s' (stdlvB p) (d + 1) := by
  unfold GoF
  rw [← wI_add1 d (by omega)]
  match s, hs with
  | 0, _ => exact ⟨2, by omega, (runQ_ok (cf := cfFB) hmG htG (evalF_ok (cf := cfFB) hmG htG primFB_ok (fnsOf_ok hfG) 40) (goFB0 p d) (condB_ok hW hG hd)).2⟩
  | 1, _ => exact ⟨2, by omega, (runQ_ok (cf := cfFB) hmG htG (evalF_ok (cf := cfFB) hmG htG primFB_ok (fnsOf_ok hfG) 40) (goFB1 p d) (condB_ok hW hG hd)).2⟩
  | 2, _ => exact ⟨2, by omega, (runQ_ok (cf := cfFB) hmG htG (evalF_ok (cf := cfFB) hmG htG primFB_ok (fnsOf_ok hfG) 40) (goFB2 p d) (condB_ok hW hG hd)).2⟩
theorem stepC (s : Nat) (p : Pa) (d : Nat) (hs : s < 3) (hW : p.W.length < 200) (hG : p.G.length < 1000000) (hd : d < 100) : ∃ s', s' < 3 ∧ GoF s { p with W := pkC :: p.W } d s' (stdlvC p) (d + 1) := by
  unfold GoF
  rw [← wI_add1 d (by omega)]
  match s, hs with
  | 0, _ => exact ⟨2, by omega, (runQ_ok (cf := cfFC) hmG htG (evalF_ok (cf := cfFC) hmG htG primFC_ok (fnsOf_ok hfG) 40) (goFC0 p d) (condC_ok hW hG hd)).2⟩
  | 1, _ => exact ⟨2, by omega, (runQ_ok (cf := cfFC) hmG htG (evalF_ok (cf := cfFC) hmG htG primFC_ok (fnsOf_ok hfG) 40) (goFC1 p d) (condC_ok hW hG hd)).2⟩
  | 2, _ => exact ⟨2, by omega, (runQ_ok (cf := cfFC) hmG htG (evalF_ok (cf := cfFC) hmG htG primFC_ok (fnsOf_ok hfG) 40) (goFC2 p d) (condC_ok hW hG hd)).2⟩

theorem cons_eta (p : Pa) (x : PK) (r : List PK) (h : p.W = x :: r) : p = { ({ p with W := r } : Pa) with W := x :: ({ p with W := r } : Pa).W } := by
  cases p; simp only at h; subst h; rfl

theorem flush_loop : ∀ (n : Nat) (w : List Kd) (s : Nat) (p : Pa) (d : Nat), s < 3 → p.W = w.map pkOf → Vb w p → wt w ≤ n → d + wt w < 100 → p.G.length + wt w < 1000000 →
    ∃ s' p' d', s' < 3 ∧ p'.W = [] ∧ Vb [] p' ∧ Kp p p' ∧ p'.G.length ≤ p.G.length + wt w ∧ GoF s p d s' p' d' := by
  intro n
  induction n with
  | zero =>
    intro w s p d hs hW hv hn hd hG
    cases w with
    | nil => exact ⟨s, p, d, hs, hW, hv, Kp.refl p, by simp [wt], Goes2.refl _ _⟩
    | cons k w => exfalso; cases k <;> simp [wt, wtK] at hn <;> omega
  | succ n ih =>
    intro w s p d hs hW hv hn hd hG
    cases w with
    | nil => exact ⟨s, p, d, hs, hW, hv, Kp.refl p, by simp [wt], Goes2.refl _ _⟩
    | cons k w =>
      have hlw := len_wt w
      have hWc : p.W = pkOf k :: w.map pkOf := hW
      have hlen : (w.map pkOf).length < 200 := by
        rw [List.length_map]
        have : wt (k :: w) = wtK k + wt w := rfl
        omega
      have he := cons_eta p (pkOf k) (w.map pkOf) hWc
      generalize hq : ({ p with W := w.map pkOf } : Pa) = q at he
      have hqW : q.W = w.map pkOf := by rw [← hq]
      have hqG : q.G = p.G := by rw [← hq]
      obtain ⟨v1, v2, v3, v4, v5, v6, v7, v8⟩ := hv
      have e1 : q.i0 = p.i0 ∧ q.i1 = p.i1 ∧ q.s0 = p.s0 ∧ q.q0 = p.q0 ∧ q.s1 = p.s1 ∧ q.q1 = p.q1 ∧ q.ch = p.ch ∧ q.tk = p.tk ∧ q.cb = p.cb ∧ q.cr = p.cr ∧ q.j0 = p.j0 := by rw [← hq]; simp
      obtain ⟨g1, g2, g3, g4, g5, g6, g7, g8, g9, g10, g11⟩ := e1
      cases k with
      | a =>
        simp only [wt, wtK] at hn hd hG ⊢
        obtain ⟨s1, hs1, go1⟩ := stepA s q d hs (by rw [hqW]; exact hlen) (by omega)
        obtain ⟨s', p', d', r1, r2, r3, r4, r5, r6⟩ := ih w s1 (stdlvA q) (d + 1) hs1 (by show q.W = _; exact hqW) (by
          refine ⟨?_, ?_, ?_, ?_, ?_, ?_, ?_, ?_⟩
          · show 0 ≤ q.i0 ∧ q.i0 ≤ 19; rw [g1]; exact v1
          · show 0 ≤ q.i1 ∧ q.i1 ≤ 19; rw [g2]; exact v2
          · show (0 : Int) ≤ 0 ∧ (0 : Int) ≤ 40; omega
          · show (0 : Int) ≤ 0 ∧ (0 : Int) ≤ 40; omega
          · show 0 ≤ q.s1 ∧ q.s1 ≤ 40; rw [g5]; exact v5
          · show 0 ≤ q.q1 ∧ q.q1 ≤ 40; rw [g6]; exact v6
          · left; show (0 : Int) ≤ q.i1 ∧ (0 : Int) ≤ q.i1; rw [g2]; exact ⟨v2.1, v2.1⟩
          · show (q.s1 ≤ q.i0 ∧ q.q1 ≤ q.i0) ∨ to1 w; rw [g5, g6, g1]
            rcases v8 with h | h
            · exact .inl h
            · right; simpa [to1] using h) (by omega) (by omega) (by show q.G.length + wt w < _; rw [hqG]; omega)
        refine ⟨s', p', d', r1, r2, r3, ?_, ?_, ?_⟩
        · exact Kp.trans ⟨g7, g8, g9, g10, g11⟩ (show Kp q p' from ⟨r4.ch, r4.tk, r4.cb, r4.cr, r4.j0⟩)
        · have : (stdlvA q).G.length = p.G.length := by show q.G.length = _; rw [hqG]
          omega
        · rw [he]; exact go1.trans r6
      | d =>
        simp only [wt, wtK] at hn hd hG ⊢
        obtain ⟨s1, hs1, go1⟩ := stepD s q d hs (by rw [hqW]; exact hlen) (by omega)
        obtain ⟨s', p', d', r1, r2, r3, r4, r5, r6⟩ := ih w s1 (stdlvD q) (d + 1) hs1 (by show q.W = _; exact hqW) (by
          refine ⟨?_, ?_, ?_, ?_, ?_, ?_, ?_, ?_⟩
          · show 0 ≤ q.i0 ∧ q.i0 ≤ 19; rw [g1]; exact v1
          · show 0 ≤ q.i1 ∧ q.i1 ≤ 19; rw [g2]; exact v2
          · show 0 ≤ q.s0 ∧ q.s0 ≤ 40; rw [g3]; exact v3
          · show 0 ≤ q.q0 ∧ q.q0 ≤ 40; rw [g4]; exact v4
          · show (0 : Int) ≤ 0 ∧ (0 : Int) ≤ 40; omega
          · show (0 : Int) ≤ 0 ∧ (0 : Int) ≤ 40; omega
          · show (q.s0 ≤ q.i1 ∧ q.q0 ≤ q.i1) ∨ to0 w; rw [g3, g4, g2]
            rcases v7 with h | h
            · exact .inl h
            · right; simpa [to0] using h
          · left; show (0 : Int) ≤ q.i0 ∧ (0 : Int) ≤ q.i0; rw [g1]; exact ⟨v1.1, v1.1⟩) (by omega) (by omega) (by show q.G.length + wt w < _; rw [hqG]; omega)
        refine ⟨s', p', d', r1, r2, r3, ?_, ?_, ?_⟩
        · exact Kp.trans ⟨g7, g8, g9, g10, g11⟩ (show Kp q p' from ⟨r4.ch, r4.tk, r4.cb, r4.cr, r4.j0⟩)
        · have : (stdlvD q).G.length = p.G.length := by show q.G.length = _; rw [hqG]
          omega
        · rw [he]; exact go1.trans r6
      | b =>
        simp only [wt, wtK] at hn hd hG ⊢
        obtain ⟨s1, hs1, go1⟩ := stepB s q d hs (by rw [hqW]; exact hlen) (by rw [hqG]; omega) (by omega)
        have hwa : wt (w ++ [Kd.a]) = wt w + 1 := by rw [wt_append]; rfl
        have hGl : (stdlvB q).G.length = p.G.length + 1 := by show (q.G ++ [pkA]).length = _; rw [hqG]; simp
        obtain ⟨s', p', d', r1, r2, r3, r4, r5, r6⟩ := ih (w ++ [.a]) s1 (stdlvB q) (d + 1) hs1 (by show q.W ++ [pkA] = _; rw [hqW]; simp [pkOf]) (by
          refine ⟨?_, ?_, ?_, ?_, ?_, ?_, ?_, ?_⟩
          · show 0 ≤ q.i0 ∧ q.i0 ≤ 19; rw [g1]; exact v1
          · show (0 : Int) ≤ 0 ∧ (0 : Int) ≤ 19; omega
          · show 0 ≤ q.s0 ∧ q.s0 ≤ 40; rw [g3]; exact v3
          · show 0 ≤ q.q0 ∧ q.q0 ≤ 40; rw [g4]; exact v4
          · show (0 : Int) ≤ 0 ∧ (0 : Int) ≤ 40; omega
          · show (0 : Int) ≤ 0 ∧ (0 : Int) ≤ 40; omega
          · right; simp [to0]
          · left; show (0 : Int) ≤ q.i0 ∧ (0 : Int) ≤ q.i0; rw [g1]; exact ⟨v1.1, v1.1⟩) (by omega) (by omega) (by omega)
        refine ⟨s', p', d', r1, r2, r3, ?_, ?_, ?_⟩
        · exact Kp.trans ⟨g7, g8, g9, g10, g11⟩ (show Kp q p' from ⟨r4.ch, r4.tk, r4.cb, r4.cr, r4.j0⟩)
        · omega
        · rw [he]; exact go1.trans r6
      | c =>
        simp only [wt, wtK] at hn hd hG ⊢
        obtain ⟨s1, hs1, go1⟩ := stepC s q d hs (by rw [hqW]; exact hlen) (by rw [hqG]; omega) (by omega)
        have hwa : wt (w ++ [Kd.d]) = wt w + 1 := by rw [wt_append]; rfl
        have hGl : (stdlvC q).G.length = p.G.length + 1 := by show (q.G ++ [pkD]).length = _; rw [hqG]; simp
        obtain ⟨s', p', d', r1, r2, r3, r4, r5, r6⟩ := ih (w ++ [.d]) s1 (stdlvC q) (d + 1) hs1 (by show q.W ++ [pkD] = _; rw [hqW]; simp [pkOf]) (by
          refine ⟨?_, ?_, ?_, ?_, ?_, ?_, ?_, ?_⟩
          · show (0 : Int) ≤ 0 ∧ (0 : Int) ≤ 19; omega
          · show 0 ≤ q.i1 ∧ q.i1 ≤ 19; rw [g2]; exact v2
          · show (0 : Int) ≤ 0 ∧ (0 : Int) ≤ 40; omega
          · show (0 : Int) ≤ 0 ∧ (0 : Int) ≤ 40; omega
          · show 0 ≤ q.s1 ∧ q.s1 ≤ 40; rw [g5]; exact v5
          · show 0 ≤ q.q1 ∧ q.q1 ≤ 40; rw [g6]; exact v6
          · left; show (0 : Int) ≤ q.i1 ∧ (0 : Int) ≤ q.i1; rw [g2]; exact ⟨v2.1, v2.1⟩
          · right; simp [to1]) (by omega) (by omega) (by omega)
        refine ⟨s', p', d', r1, r2, r3, ?_, ?_, ?_⟩
        · exact Kp.trans ⟨g7, g8, g9, g10, g11⟩ (show Kp q p' from ⟨r4.ch, r4.tk, r4.cb, r4.cr, r4.j0⟩)
        · omega
        · rw [he]; exact go1.trans r6

theorem nmF : (fnF.name == "runtime.NumGoroutine") = false := by kernel_rfl
noncomputable def cF : Code := fnF.body.getD default
theorem hbF : fnF.body = some cF := by kernel_rfl
theorem okF0 (p p' : Pa) (d : Int) : ((innN argF p).ok && (outF 0 p' d).ok (innN argF p)) = true := by kernel_rfl
theorem okF1 (p p' : Pa) (d : Int) : ((innN argF p).ok && (outF 1 p' d).ok (innN argF p)) = true := by kernel_rfl
theorem okF2 (p p' : Pa) (d : Int) : ((innN argF p).ok && (outF 2 p' d).ok (innN argF p)) = true := by kernel_rfl
theorem nil_eta (p : Pa) (h : p.W = []) : ({ p with W := [] } : Pa) = p := by cases p; simp only at h; subst h; rfl
theorem flush_ok (w : List Kd) (p : Pa) (hW : p.W = w.map pkOf) (hv : Vb w p) (hn : wt w < 100) (hG : p.G.length + wt w < 1000000) :
    ∃ s' p' d', s' < 3 ∧ p'.W = [] ∧ Vb [] p' ∧ Kp p p' ∧ p'.G.length ≤ p.G.length + wt w ∧ FnOK Pr 21 (innN argF p) (outF s' p' d') := by
  obtain ⟨s', p', d', r1, r2, r3, r4, r5, r6⟩ := flush_loop (wt w) w 0 p 0 (by omega) hW hv (Nat.le_refl _) (by omega) hG
  refine ⟨s', p', d', r1, r2, r3, r4, r5, ?_⟩
  have hev := evalF_ok (cf := cfFX) hmG htG prim0_ok (fnsOf_ok hfG) 40
  have h0 := (runQ_ok (cf := cfFX) hmG htG hev (goF0 p) trivial).2
  have hall := h0.trans r6
  have e := nil_eta p' r2
  match s', r1 with
  | 0, _ => exact fnOK_frames (cf := cfFX) hmG htG hev hF21 nmF hbF (inn := innN argF p) (acc := []) hall (by have := endF0 p' d'; rw [e] at this; exact this) trivial (okF0 p p' d')
  | 1, _ => exact fnOK_frames (cf := cfFX) hmG htG hev hF21 nmF hbF (inn := innN argF p) (acc := []) hall (by have := endF1 p' d'; rw [e] at this; exact this) trivial (okF1 p p' d')
  | 2, _ => exact fnOK_frames (cf := cfFX) hmG htG hev hF21 nmF hbF (inn := innN argF p) (acc := []) hall (by have := endF2 p' d'; rw [e] at this; exact this) trivial (okF2 p p' d')
end Zed
namespace Zed
open Go
set_option maxRecDepth 100000
set_option linter.unusedVariables false
noncomputable def cfStats : Cfg := { cfW with dir := dirOf (.n none (.n none (.n none (.n none .e (.n none (.n none (.n none (.n none (.n (some [(3, 9999, .finV)]) .e .e) .e) .e) .e) .e)) (.n none (.n none (.n none (.n (some [(3, 0, .row)]) .e .e) .e) (.n none (.n (some [(1, 3, .lz), (1, 4, .lz)]) .e .e) .e)) .e)) (.n none (.n none (.n none .e (.n none (.n (some [(1, 3, .lz), (1, 8, .lz), (1, 9, .lz)]) .e .e) .e)) (.n none (.n none (.n none (.n none (.n (some [(27, 9999, .fin), (28, 9999, .fin)]) .e .e) .e) .e) .e) .e)) .e)) (.n none (.n none (.n none (.n none (.n none .e (.n none (.n none (.n (some [(6, 9999, .fin)]) .e .e) .e) .e)) .e) (.n none (.n (some [(6, 25, .lz), (6, 30, .lz), (6, 35, .lz), (6, 54, .lz), (6, 55, .lz), (6, 56, .lz), (6, 57, .lz), (8, 0, .lz), (8, 1, .lz), (6, 9999, .fin)]) .e .e) (.n none (.n none .e (.n (some [(2, 9999, .fin)]) .e .e)) .e))) (.n none .e (.n none .e (.n none (.n (some [(9, 9999, .fin)]) (.n none (.n (some [(7, 3, .row)]) .e .e) .e) .e) .e)))) (.n none (.n none (.n (some [(4, 1, .lz), (4, 2, .lz)]) .e (.n none (.n (some [(1, 3, .lz), (1, 4, .lz)]) .e .e) .e)) (.n none (.n none .e (.n none (.n none (.n (some [(1, 9999, .fin)]) .e .e) .e) .e)) (.n none (.n none .e (.n (some [(3, 7, .row)]) .e .e)) .e))) (.n none (.n none .e (.n none .e (.n (some [(10, 9999, .fin), (12, 9999, .fin)]) .e .e))) (.n none (.n none .e (.n none .e (.n (some [(9999, 9999, .hd)]) .e .e))) .e))))) }
noncomputable def outStats (p : Pa) : Out := ⟨.one (.c (.own 23 (.pair (.pair (.int .i64) (.pair (.int .u16) (.int .u16))) (.pair (.int .i64) (.pair (.int .i64) (.pair (.int .u32) (.pair (.int .u32) (.pair (.int .u32) (.pair (.int .u32) (.pair (.bool) (.pair (.bool) (.pair (.int .i64) (.pair (.int .i64) (.pair (.int .i64) (.pair (.int .i64) (.pair (.int .i64) (.int .i64))))))))))))))) ([((0, (80, 5)), (0, (3, (799422320, (799422321, (799422321, (3321510608, (false, (decide (p.pt ≥ 8), (p.pt, (p.tk, (8, (0, (32, 0))))))))))))))] : List (((Int) × ((Int) × (Int))) × ((Int) × ((Int) × ((Int) × ((Int) × ((Int) × ((Int) × ((Bool) × ((Bool) × ((Int) × ((Int) × ((Int) × ((Int) × ((Int) × (Int)))))))))))))))))), [(6, ⟨3, 0⟩), (12, ⟨3, 1⟩), (23, ⟨63, 0⟩)], bxB noPost p, 24⟩
theorem runStats (p : Pa) : fnT (evalF cfStats 40) true 18 (innB noPost [.c (.d (.int .i64 1))] p) [] = some (outStats p, []) := by kernel_rfl
theorem okStats (p : Pa) : FnOK Go.Proofs.Tryz.prog 18 (innB noPost [.c (.d (.int .i64 1))] p) (outStats p) := (fnT_ok (evalF_ok (cf := cfStats) hmG htG prim0_ok (fnsOf_ok hfG) 40) (runStats p) trivial).2
end Zed
namespace Zed
open Go
set_option maxRecDepth 100000
set_option linter.unusedVariables false
noncomputable def innEnc (k : Nat) : Inn := ⟨[.agg [.d (.int .u16 5), .d (.int .u16 80), .d (.int .u32 (.ofNat (3321510609 + k))), .d (.int .u32 0), .d (.int .u8 4), .d (.sl .unit ([] : List Unit)), .d (.sl .unit ([] : List Unit))]], [], [], 0⟩
noncomputable def outEnc (k : Nat) : Out := ⟨.tup [.c (.own 0 (.int .u8) ([0, 5, 0, 80, 197, 250, 58, .ofNat (209 + k), 0, 0, 0, 0, 4, 0] : List Int)), .c (.d (.int .i64 0))], [(0, ⟨5, 0⟩)], [], 1⟩
theorem runE0 : fnT (evalF cfW 40) true 19 (innEnc 0) [] = some (outEnc 0, []) := by kernel_rfl
theorem runE1 : fnT (evalF cfW 40) true 19 (innEnc 1) [] = some (outEnc 1, []) := by kernel_rfl
theorem runE2 : fnT (evalF cfW 40) true 19 (innEnc 2) [] = some (outEnc 2, []) := by kernel_rfl
theorem runE3 : fnT (evalF cfW 40) true 19 (innEnc 3) [] = some (outEnc 3, []) := by kernel_rfl
theorem runE4 : fnT (evalF cfW 40) true 19 (innEnc 4) [] = some (outEnc 4, []) := by kernel_rfl
theorem runE5 : fnT (evalF cfW 40) true 19 (innEnc 5) [] = some (outEnc 5, []) := by kernel_rfl
theorem runE6 : fnT (evalF cfW 40) true 19 (innEnc 6) [] = some (outEnc 6, []) := by kernel_rfl
theorem runE7 : fnT (evalF cfW 40) true 19 (innEnc 7) [] = some (outEnc 7, []) := by kernel_rfl
theorem runE8 : fnT (evalF cfW 40) true 19 (innEnc 8) [] = some (outEnc 8, []) := by kernel_rfl
theorem runE9 : fnT (evalF cfW 40) true 19 (innEnc 9) [] = some (outEnc 9, []) := by kernel_rfl
theorem runE10 : fnT (evalF cfW 40) true 19 (innEnc 10) [] = some (outEnc 10, []) := by kernel_rfl
theorem runE11 : fnT (evalF cfW 40) true 19 (innEnc 11) [] = some (outEnc 11, []) := by kernel_rfl
theorem runE12 : fnT (evalF cfW 40) true 19 (innEnc 12) [] = some (outEnc 12, []) := by kernel_rfl
theorem runE13 : fnT (evalF cfW 40) true 19 (innEnc 13) [] = some (outEnc 13, []) := by kernel_rfl
theorem runE14 : fnT (evalF cfW 40) true 19 (innEnc 14) [] = some (outEnc 14, []) := by kernel_rfl
theorem runE15 : fnT (evalF cfW 40) true 19 (innEnc 15) [] = some (outEnc 15, []) := by kernel_rfl
theorem runE16 : fnT (evalF cfW 40) true 19 (innEnc 16) [] = some (outEnc 16, []) := by kernel_rfl
theorem runE17 : fnT (evalF cfW 40) true 19 (innEnc 17) [] = some (outEnc 17, []) := by kernel_rfl
theorem runE18 : fnT (evalF cfW 40) true 19 (innEnc 18) [] = some (outEnc 18, []) := by kernel_rfl
theorem runE19 : fnT (evalF cfW 40) true 19 (innEnc 19) [] = some (outEnc 19, []) := by kernel_rfl
theorem runE20 : fnT (evalF cfW 40) true 19 (innEnc 20) [] = some (outEnc 20, []) := by kernel_rfl
theorem runE21 : fnT (evalF cfW 40) true 19 (innEnc 21) [] = some (outEnc 21, []) := by kernel_rfl
theorem runE22 : fnT (evalF cfW 40) true 19 (innEnc 22) [] = some (outEnc 22, []) := by kernel_rfl
theorem runE23 : fnT (evalF cfW 40) true 19 (innEnc 23) [] = some (outEnc 23, []) := by kernel_rfl
theorem runE24 : fnT (evalF cfW 40) true 19 (innEnc 24) [] = some (outEnc 24, []) := by kernel_rfl
theorem runE25 : fnT (evalF cfW 40) true 19 (innEnc 25) [] = some (outEnc 25, []) := by kernel_rfl
theorem runE26 : fnT (evalF cfW 40) true 19 (innEnc 26) [] = some (outEnc 26, []) := by kernel_rfl
theorem runE27 : fnT (evalF cfW 40) true 19 (innEnc 27) [] = some (outEnc 27, []) := by kernel_rfl
theorem runE28 : fnT (evalF cfW 40) true 19 (innEnc 28) [] = some (outEnc 28, []) := by kernel_rfl
theorem runE29 : fnT (evalF cfW 40) true 19 (innEnc 29) [] = some (outEnc 29, []) := by kernel_rfl
theorem okEnc (k : Nat) (h : k < 30) : FnOK Go.Proofs.Tryz.prog 19 (innEnc k) (outEnc k) := by
  have ok : ∀ {i o}, fnT (evalF cfW 40) true 19 i [] = some (o, []) → FnOK Go.Proofs.Tryz.prog 19 i o := fun h => (fnT_ok (evalF_ok (cf := cfW) hmG htG prim0_ok (fnsOf_ok hfG) 40) h trivial).2
  match k, h with
  | 0, _ => exact ok runE0
  | 1, _ => exact ok runE1
  | 2, _ => exact ok runE2
  | 3, _ => exact ok runE3
  | 4, _ => exact ok runE4
  | 5, _ => exact ok runE5
  | 6, _ => exact ok runE6
  | 7, _ => exact ok runE7
  | 8, _ => exact ok runE8
  | 9, _ => exact ok runE9
  | 10, _ => exact ok runE10
  | 11, _ => exact ok runE11
  | 12, _ => exact ok runE12
  | 13, _ => exact ok runE13
  | 14, _ => exact ok runE14
  | 15, _ => exact ok runE15
  | 16, _ => exact ok runE16
  | 17, _ => exact ok runE17
  | 18, _ => exact ok runE18
  | 19, _ => exact ok runE19
  | 20, _ => exact ok runE20
  | 21, _ => exact ok runE21
  | 22, _ => exact ok runE22
  | 23, _ => exact ok runE23
  | 24, _ => exact ok runE24
  | 25, _ => exact ok runE25
  | 26, _ => exact ok runE26
  | 27, _ => exact ok runE27
  | 28, _ => exact ok runE28
  | 29, _ => exact ok runE29
  | k + 30, h => exact absurd h (by omega)
end Zed
