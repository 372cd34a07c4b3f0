/- What a filter fits, and what all of a filter says: of the functions that the text prints. Conditions: none. -/
import Derived.Test.YtakamchmiakicaaDoorPureLib35d
namespace Go.Proofs.YtakamchmiakicaaDoorF35d
open Go Zed Go.Proofs.YtakamchmiakicaaDoorLeaf
set_option linter.unusedVariables false
set_option linter.unusedSimpArgs false
set_option maxRecDepth 100000

abbrev Opts := List (Int × List Int)
/-- The first option of a kind. -/
theorem first_loop (kind : Int) (l : Opts) (z : Int) (hl : l.length ≤ 1000000) : ∀ (d i : Nat) (hi : i + d = l.length),
    Ev (fun n => f89_seg_First_L2 n kind l ((l.length : Nat) : Int) (i : Int) z) (fun w => match w with | .inl e => e.1 = true ∧ (l.drop i).any (fun p => p.1 == kind) = true | .inr _ => (l.drop i).any (fun p => p.1 == kind) = false)
  | 0, i, hi => by
    apply Ev.succ
    simp only [f89_seg_First_L2]
    refine Ev.neg (by simp only [decide_eq_true_eq]; omega) (Ev.some ?_)
    show (l.drop i).any _ = false
    rw [List.drop_eq_nil_of_le (by omega)]; rfl
  | d + 1, i, hi => by
    have e1 : l.drop i = l.getD i (0, []) :: l.drop (i + 1) := drop_cons (by omega) _
    apply Ev.succ
    simp only [f89_seg_First_L2]
    rw [Int.toNat_natCast, i64_id (e := (i : Int) + 1) (by omega) (by omega)]
    refine Ev.pos (by simp only [decide_eq_true_eq]; omega) (Ev.guard (by omega) (Ev.ite (fun c => Ev.some ?_) (fun c => (first_loop kind l z hl d (i + 1) (by omega)).mono fun w hw => ?_)))
    · refine ⟨rfl, ?_⟩
      rw [e1, List.any_cons, c]; rfl
    · rw [e1, List.any_cons, (by simpa using c : ((l.getD i (0, [])).1 == kind) = false), Bool.false_or]; exact hw
theorem first_ev (s0 s1 s2 s3 s4 : Int) (s5 : Opts) (s6 : List Int) (kind : Int) (hl : s5.length ≤ 1000000) : Ev (fun n => f89_seg_First n s0 s1 s2 s3 s4 s5 s6 kind) (fun r => r.1 = s5.any (fun p => p.1 == kind)) := by
  unfold f89_seg_First
  refine Ev.bind (first_loop kind s5 0 hl s5.length 0 (by omega)) fun w hw => ?_
  rw [List.drop_zero] at hw
  cases w with
  | inl e => exact Ev.some (hw.1.trans hw.2.symm)
  | inr e => exact Ev.some hw.symm
structure Sg where
  a : Int
  b : Int
  c : Int
  d : Int
  e : Int
  o : Opts
  x : List Int
def leafM (s : Sg) (o k : Int) : Bool :=
  if o = 1 then true else if o = 2 then (bits .and .i64 (IntKind.wrap .i64 s.e) k) != 0 else if o = 3 then (IntKind.wrap .i64 s.a == k || IntKind.wrap .i64 s.b == k) else if o = 4 then IntKind.wrap .i64 s.a == k
  else if o = 5 then IntKind.wrap .i64 s.b == k else if o = 6 then s.o.any (fun p => p.1 == IntKind.wrap .u8 k) else if o = 7 then decide ((s.x.length : Int) ≥ k) else ((s.x.length : Int) == 0)
def mS (s : Sg) : PT → Bool
  | .nil => false
  | .node o k a b => if o = 8 then !mS s a else if o = 9 then mS s a && mS s b else if o = 10 then mS s a || mS s b else leafM s o k
theorem mk1 (n : Nat) (k : Int) (a b : PT) (s : Sg) : f60_filter_match (n + 1) (.node 1 k a b) s.a s.b s.c s.d s.e s.o s.x = some true := by kernel_rfl
theorem mk2 (n : Nat) (k : Int) (a b : PT) (s : Sg) : f60_filter_match (n + 1) (.node 2 k a b) s.a s.b s.c s.d s.e s.o s.x = some ((bits .and .i64 (IntKind.wrap .i64 s.e) k) != 0) := by kernel_rfl
theorem mk3 (n : Nat) (k : Int) (a b : PT) (s : Sg) : f60_filter_match (n + 1) (.node 3 k a b) s.a s.b s.c s.d s.e s.o s.x = if (IntKind.wrap .i64 s.a == k) = true then some true else some (IntKind.wrap .i64 s.b == k) := by kernel_rfl
theorem mk4 (n : Nat) (k : Int) (a b : PT) (s : Sg) : f60_filter_match (n + 1) (.node 4 k a b) s.a s.b s.c s.d s.e s.o s.x = some (IntKind.wrap .i64 s.a == k) := by kernel_rfl
theorem mk5 (n : Nat) (k : Int) (a b : PT) (s : Sg) : f60_filter_match (n + 1) (.node 5 k a b) s.a s.b s.c s.d s.e s.o s.x = some (IntKind.wrap .i64 s.b == k) := by kernel_rfl
theorem mk6 (n : Nat) (k : Int) (a b : PT) (s : Sg) : f60_filter_match (n + 1) (.node 6 k a b) s.a s.b s.c s.d s.e s.o s.x = (f89_seg_First n s.a s.b s.c s.d s.e s.o s.x (IntKind.wrap .u8 k)).bind fun r => some r.1 := by kernel_rfl
theorem mk7 (n : Nat) (k : Int) (a b : PT) (s : Sg) : f60_filter_match (n + 1) (.node 7 k a b) s.a s.b s.c s.d s.e s.o s.x = some (decide (((s.x.length : Nat) : Int) ≥ k)) := by kernel_rfl
theorem mk11 (n : Nat) (k : Int) (a b : PT) (s : Sg) : f60_filter_match (n + 1) (.node 11 k a b) s.a s.b s.c s.d s.e s.o s.x = some (((s.x.length : Nat) : Int) == 0) := by kernel_rfl
theorem mk8 (n : Nat) (k : Int) (a b : PT) (s : Sg) : f60_filter_match (n + 1) (.node 8 k a b) s.a s.b s.c s.d s.e s.o s.x = (f60_filter_match n a s.a s.b s.c s.d s.e s.o s.x).bind fun r => some (!r) := by kernel_rfl
theorem mk9 (n : Nat) (k : Int) (a b : PT) (s : Sg) : f60_filter_match (n + 1) (.node 9 k a b) s.a s.b s.c s.d s.e s.o s.x = (f60_filter_match n a s.a s.b s.c s.d s.e s.o s.x).bind fun r => if r = true then (f60_filter_match n b s.a s.b s.c s.d s.e s.o s.x).bind fun q => some q else some false := by kernel_rfl
theorem mk10 (n : Nat) (k : Int) (a b : PT) (s : Sg) : f60_filter_match (n + 1) (.node 10 k a b) s.a s.b s.c s.d s.e s.o s.x = (f60_filter_match n a s.a s.b s.c s.d s.e s.o s.x).bind fun r => if r = true then some true else (f60_filter_match n b s.a s.b s.c s.d s.e s.o s.x).bind fun q => some q := by kernel_rfl
theorem leafM_ev {o : Int} (h : Leaf o) (k : Int) (s : Sg) (hs : s.o.length ≤ 1000000) : Ev (fun n => f60_filter_match n (.node o k .nil .nil) s.a s.b s.c s.d s.e s.o s.x) (fun r => r = leafM s o k) := by
  apply Ev.succ
  unfold leafM
  rcases h with rfl | rfl | rfl | rfl | rfl | rfl | rfl | rfl
  · simp only [mk1]; exact Ev.some rfl
  · simp only [mk2]; exact Ev.some rfl
  · simp only [mk3]
    refine Ev.ite (fun c => Ev.some ?_) (fun c => Ev.some ?_)
    · rw [c]; rfl
    · rw [(by simpa using c : (IntKind.wrap .i64 s.a == k) = false)]; rfl
  · simp only [mk4]; exact Ev.some rfl
  · simp only [mk5]; exact Ev.some rfl
  · simp only [mk6]
    exact Ev.bind (first_ev _ _ _ _ _ _ _ _ hs) fun r hr => Ev.some hr
  · simp only [mk7]; exact Ev.some rfl
  · simp only [mk11]; exact Ev.some rfl
theorem match_ev (s : Sg) (hs : s.o.length ≤ 1000000) : ∀ {t : PT} (h : Tr t), Ev (fun n => f60_filter_match n t s.a s.b s.c s.d s.e s.o s.x) (fun r => r = mS s t) := by
  intro t h
  induction h with
  | @leaf o k h =>
    have e : mS s (.node o k .nil .nil) = leafM s o k := by unfold Leaf at h; rw [mS, if_neg (by omega), if_neg (by omega), if_neg (by omega)]
    rw [e]; exact leafM_ev h k s hs
  | @neg a h ih =>
    apply Ev.succ
    simp only [mk8]
    refine Ev.bind ih ?_
    rintro _ rfl
    exact Ev.some (by rw [mS, if_pos rfl])
  | @two o a b ho h k ih1 ih2 =>
    apply Ev.succ
    rcases ho with rfl | rfl
    · simp only [mk9]
      refine Ev.bind ih1 ?_
      rintro _ rfl
      have e : mS s (.node 9 0 a b) = (mS s a && mS s b) := by rw [mS, if_neg (by omega), if_pos rfl]
      rw [e]
      cases mS s a
      · exact Ev.neg (by simp) (Ev.some rfl)
      · refine Ev.pos rfl (Ev.bind ih2 ?_)
        rintro _ rfl
        exact Ev.some rfl
    · simp only [mk10]
      refine Ev.bind ih1 ?_
      rintro _ rfl
      have e : mS s (.node 10 0 a b) = (mS s a || mS s b) := by rw [mS, if_neg (by omega), if_neg (by omega), if_pos rfl]
      rw [e]
      cases mS s a
      · refine Ev.neg (by simp) (Ev.bind ih2 ?_)
        rintro _ rfl
        exact Ev.some rfl
      · exact Ev.pos rfl (Ev.some rfl)
theorem matchX_ev (s : Sg) (hs : s.o.length ≤ 1000000) (t : PT) : Ev (fun n => f32_filter_Match n t s.a s.b s.c s.d s.e s.o s.x) (fun r => (Tr t ∧ Good t ∧ r = mS s t) ∨ (¬ (Tr t ∧ Good t) ∧ r = false)) := by
  unfold f32_filter_Match
  refine Ev.bind (rightX_ev t) fun r hr => ?_
  by_cases c : r = true
  · obtain ⟨h, g⟩ := hr.1 c
    refine Ev.pos c (Ev.bind (match_ev s hs h) ?_)
    rintro _ rfl
    exact Ev.some (.inl ⟨h, g, rfl⟩)
  · exact Ev.neg c (Ev.some (.inr ⟨fun q => c (hr.2 q), rfl⟩))
theorem matchG_ev (s : Sg) (hs : s.o.length ≤ 1000000) {t : PT} (h : Tr t) (g : Good t) : Ev (fun n => f32_filter_Match n t s.a s.b s.c s.d s.e s.o s.x) (fun r => r = mS s t) :=
  (matchX_ev s hs t).mono fun r hr => by
    rcases hr with ⟨_, _, e⟩ | ⟨e, _⟩
    · exact e
    · exact absurd ⟨h, g⟩ e
/-- Great: whatever it says; if not, there are few options. -/
theorem greatS_loop (s0 s1 s2 s3 s4 : Int) (s5 : Opts) (s6 : List Int) (hl : s5.length ≤ 120) : ∀ (d i : Nat) (hi : i + d = s5.length), Ev (fun n => f29_broughamlaw07_Great_L4 n (i : Int) s0 s1 s2 s3 s4 s5 s6) (fun _ => True)
  | 0, i, hi => by
    apply Ev.succ
    simp only [f29_broughamlaw07_Great_L4]
    exact Ev.neg (by simp only [decide_eq_true_eq]; omega) (Ev.some trivial)
  | d + 1, i, hi => by
    apply Ev.succ
    simp only [f29_broughamlaw07_Great_L4]
    rw [i64_id (e := (i : Int) + 1) (by omega) (by omega)]
    exact Ev.pos (by simp only [decide_eq_true_eq]; omega) (Ev.guard (by omega) (Ev.ite (fun _ => Ev.some trivial) (fun _ => greatS_loop s0 s1 s2 s3 s4 s5 s6 hl d (i + 1) (by omega))))
theorem greatS_ev (s0 s1 s2 s3 s4 : Int) (s5 : Opts) (s6 : List Int) : Ev (fun n => f29_broughamlaw07_Great n s0 s1 s2 s3 s4 s5 s6) (fun r => r = false → s5.length ≤ 120 ∧ s6.length ≤ 2000) := by
  unfold f29_broughamlaw07_Great
  refine Ev.ite (fun _ => Ev.some (fun h => by cases h)) (fun c1 => Ev.ite (fun _ => Ev.some (fun h => by cases h)) (fun c2 => ?_))
  simp only [decide_eq_true_eq] at c1 c2
  refine Ev.bind (greatS_loop s0 s1 s2 s3 s4 s5 s6 (by omega) s5.length 0 (by omega)) fun w _ => ?_
  cases w with
  | inl e => exact Ev.some (fun _ => by omega)
  | inr e => exact Ev.some (fun _ => by omega)
end Go.Proofs.YtakamchmiakicaaDoorF35d
