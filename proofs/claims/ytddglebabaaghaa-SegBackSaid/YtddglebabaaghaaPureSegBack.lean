/- SegBack: a segment that may be is read as it was written, bytes that are read are written as they were: of the functions that text F07 prints. Conditions: none. -/
import Derived.Test.YtddglebabaaghaaPureSegWrites
namespace Go.Proofs.YtddglebabaaghaaF07
open Go Zed
set_option linter.unusedVariables false
set_option linter.unusedSimpArgs false

def optsP : Nat → List Int → Option (List O)
  | _, [] => some []
  | 0, _ => none
  | _ + 1, [_] => none
  | f + 1, k :: c :: r => if k = 0 then none else if c > (r.length : Int) then none else (optsP f (r.drop c.toNat)).map fun l => (k, r.take c.toNat) :: l
theorem optsLoop : ∀ (f : Nat) (b : List Int) (out : List O), Bytes b → b.length ≤ f → out.length + f ≤ 4000 → Ev (fun n => f86_seg_options_L2 n b out) (fun r => r = match optsP f b with | none => .inl ([], false) | some l => .inr (out ++ l))
  | f, [], out, hb, hf, ho => by
    apply Ev.succ
    simp only [f86_seg_options_L2]
    have : optsP f [] = some [] := by cases f <;> rfl
    rw [this]
    exact Ev.neg (by simp) (Ev.some (by simp))
  | 0, _ :: _, out, hb, hf, ho => by simp at hf
  | f + 1, [x], out, hb, hf, ho => by
    apply Ev.succ
    simp only [f86_seg_options_L2]
    exact Ev.pos (by simp) (Ev.pos (by simp) (Ev.some rfl))
  | f + 1, k :: c :: r, out, hb, hf, ho => by
    apply Ev.succ
    simp only [f86_seg_options_L2]
    have hk := hb.head
    have hc := hb.tail.head
    have hr := hb.tail.tail
    have x0 : (k :: c :: r).getD 0 0 = k := rfl
    have x1 : (k :: c :: r).getD 1 0 = c := rfl
    have hl : (k :: c :: r).length = r.length + 2 := rfl
    simp only [List.length_cons] at hf
    have e1 : IntKind.wrap .i64 c = c := i64_id (by omega) (by omega)
    have e2 : IntKind.wrap .i64 ((((k :: c :: r).length : Nat) : Int) - 2) = (r.length : Int) := by rw [hl, i64_id] <;> omega
    have e3 : IntKind.wrap .i64 (2 + c) = 2 + c := i64_id (by omega) (by omega)
    rw [x0, x1, e1, e2, e3, optsP]
    have et : (2 + c).toNat = c.toNat + 2 := by omega
    rw [et, List.take_length]
    have e4 : ((k :: c :: r).take (c.toNat + 2)).drop 2 = r.take c.toNat := rfl
    have e5 : (k :: c :: r).drop (c.toNat + 2) = r.drop c.toNat := rfl
    rw [e4, e5]
    refine Ev.pos (by simp; omega) (Ev.neg (by simp; omega) (Ev.guard (by rw [hl]; omega) (Ev.ite (fun a => Ev.some ?_) fun a => Ev.guard (by rw [hl]; omega) (Ev.ite (fun a2 => Ev.some ?_) fun a2 => ?_))))
    · rw [beq_iff_eq] at a; rw [if_pos a]
    · rw [beq_iff_eq] at a; rw [decide_eq_true_eq] at a2; rw [if_neg a, if_pos a2]
    · rw [beq_iff_eq] at a; rw [decide_eq_true_eq] at a2
      rw [if_neg a, if_neg a2]
      refine Ev.guard (by rw [hl]; omega) (Ev.guard (by rw [hl]; omega) (Ev.guard ?_ (Ev.guard ?_ (Ev.guard ?_ (Ev.guard ?_ ?_)))))
      · simp [cutOk]; omega
      · simp only [List.length_take, maxLen]; omega
      · simp only [List.length_cons, List.length_nil, maxLen]; omega
      · simp [cutOk]; omega
      · refine (optsLoop f (r.drop c.toNat) (out ++ [(k, r.take c.toNat)]) (hr.drop _) (by simp only [List.length_drop]; omega) (by simp only [List.length_append, List.length_cons, List.length_nil]; omega)).mono ?_
        rintro _ rfl
        cases optsP f (r.drop c.toNat) with
        | none => rfl
        | some l => simp
theorem opts_is (f : Nat) (b : List Int) (hb : Bytes b) (hf : b.length ≤ f) (h4 : f ≤ 4000) : Ev (fun n => f86_seg_options n b) (fun r => r = match optsP f b with | none => ([], false) | some l => (l, true)) := by
  unfold f86_seg_options
  refine Ev.bind (optsLoop f b [] hb hf (by simp; omega)) ?_
  rintro _ rfl
  cases optsP f b with
  | none => exact Ev.some rfl
  | some l => exact Ev.some rfl
theorem optsP_optsB : ∀ (l : List O) (f : Nat) (n : Int), okO n l = true → (optsB l).length ≤ f → optsP f (optsB l) = some l
  | [], f, n, h, hf => by cases f <;> rfl
  | o :: l, f, n, h, hf => by
    rw [okO_cons] at h
    simp only [optsB, List.length_append, List.length_cons, List.length_nil] at hf
    obtain ⟨f, rfl⟩ : ∃ g, f = g + 1 := ⟨f - 1, by omega⟩
    have e : optsB (o :: l) = o.1 :: (o.2.length : Int) :: (o.2 ++ optsB l) := by simp [optsB]
    rw [e, optsP, if_neg h.1.1, if_neg (by simp; omega), Int.toNat_natCast, List.drop_left, List.take_left, optsP_optsB l f _ h.2 (by omega)]
    rfl
theorem optsB_optsP : ∀ (f : Nat) (r : List Int) (l : List O) (n : Int), Bytes r → optsP f r = some l → n + (r.length : Int) ≤ 200 → optsB l = r ∧ okO n l = true ∧ l.length ≤ r.length ∧ ∀ o ∈ l, o.2.length ≤ r.length
  | f, [], l, n, hb, h, hn => by
    have : optsP f [] = some [] := by cases f <;> rfl
    rw [this] at h
    injection h with h; subst h
    exact ⟨rfl, rfl, Nat.le_refl _, fun o ho => by cases ho⟩
  | 0, _ :: _, l, n, hb, h, hn => by simp [optsP] at h
  | f + 1, [x], l, n, hb, h, hn => by simp [optsP] at h
  | f + 1, k :: c :: r, l, n, hb, h, hn => by
    rw [optsP] at h
    split at h
    · cases h
    rename_i hk
    split at h
    · cases h
    rename_i hc2
    obtain ⟨l', h1, h2⟩ := Option.map_eq_some_iff.1 h
    subst h2
    have hc := hb.tail.head
    simp only [List.length_cons] at hn
    have hl : (r.take c.toNat).length = c.toNat := by rw [List.length_take]; omega
    obtain ⟨i1, i2, i3, i4⟩ := optsB_optsP f (r.drop c.toNat) l' (n + (2 + (c.toNat : Int))) (hb.tail.tail.drop _) h1 (by simp only [List.length_drop]; omega)
    refine ⟨?_, ?_, ?_, ?_⟩
    · simp only [optsB, hl, i1]
      rw [show (c.toNat : Int) = c by omega]
      simp
    · rw [okO_cons]
      dsimp only
      rw [hl]
      exact ⟨⟨hk, by omega, by omega⟩, i2⟩
    · simp only [List.length_cons, List.length_drop] at i3 ⊢; omega
    · intro o ho
      simp only [List.length_drop] at i4
      rcases List.mem_cons.1 ho with rfl | h5
      · simp only [hl, List.length_cons]; omega
      · have := i4 o h5; simp only [List.length_cons]; omega

abbrev Seg8 := Int × Int × Int × Int × Int × Int × List O × List Int
def er (e : Int) : Seg8 := (e, 0, 0, 0, 0, 0, [], [])
def parseOf (b : List Int) : Seg8 := match go b [2, 2, 4, 4, 1, 1] with
  | some ([x0, x1, x2, x3, x4, x5], rest) => if x4 > 7 then er 70 else if x5 > 200 then er 71 else if x5 > (rest.length : Int) then er 71 else
      match optsP 4000 (rest.take x5.toNat) with
      | none => er 71
      | some l => if (rest.length : Int) - x5 > 1024 then er 72 else (0, x0, x1, x2, x3, x4, l, rest.drop x5.toNat)
  | _ => er 70
theorem q2 : (256 : Int) ^ 2 = 65536 := by decide
theorem go6 {b : List Int} (hb : Bytes b) : go b [2, 2, 4, 4, 1, 1] = none ∨ ∃ x0 x1 x2 x3 x4 x5 rest, go b [2, 2, 4, 4, 1, 1] = some ([x0, x1, x2, x3, x4, x5], rest) ∧ U16 x0 ∧ U16 x1 ∧ U32 x2 ∧ U32 x3 ∧ U8 x4 ∧ U8 x5 ∧ Bytes rest ∧ rest.length + 14 = b.length ∧ b = hdB x0 x1 x2 x3 x4 ++ (be 1 x5 ++ rest) ∧ rest = b.drop 14 ∧ x4 = b.getD 12 0 ∧ x5 = b.getD 13 0 := by
  cases hg : go b [2, 2, 4, 4, 1, 1] with
  | none => exact .inl rfl
  | some p =>
    obtain ⟨v, rest⟩ := p
    have hlen := (go_len _ _ _ hg).2
    match v, hlen with
    | [x0, x1, x2, x3, x4, x5], _ =>
      refine .inr ⟨x0, x1, x2, x3, x4, x5, rest, rfl, ?_⟩
      obtain ⟨_, _, l1, v1, g1⟩ := go_cons hg
      obtain ⟨_, _, l2, v2, g2⟩ := go_cons g1
      obtain ⟨_, _, l3, v3, g3⟩ := go_cons g2
      obtain ⟨_, _, l4, v4, g4⟩ := go_cons g3
      obtain ⟨_, _, l5, v5, g5⟩ := go_cons g4
      obtain ⟨_, _, l6, v6, g6⟩ := go_cons g5
      clear hg g1 g2 g3 g4 g5
      simp only [go, Option.some.injEq, Prod.mk.injEq, true_and] at g6
      have t2 : Int.toNat 2 = 2 := rfl
      have t4 : Int.toNat 4 = 4 := rfl
      have t1 : Int.toNat 1 = 1 := rfl
      simp only [t1, t2, t4, List.drop_drop] at v1 v2 v3 v4 v5 v6 g6 l1 l2 l3 l4 l5 l6
      simp only [List.length_drop] at l2 l3 l4 l5 l6
      have n1 := num_take hb (s := 2) (by omega) (by omega)
      have n2 := num_take (hb.drop 2) (s := 2) (by omega) (by simp; omega)
      have n3 := num_take (hb.drop 4) (s := 4) (by omega) (by simp; omega)
      have n4 := num_take (hb.drop 8) (s := 4) (by omega) (by simp; omega)
      have n5 := num_take (hb.drop 12) (s := 1) (by omega) (by simp; omega)
      have n6 := num_take (hb.drop 13) (s := 1) (by omega) (by simp; omega)
      rw [q2] at n1 n2; rw [p4] at n3 n4; rw [p1] at n5 n6
      have c1 := be_take hb (s := 2) (by omega) (by omega)
      have c2 := be_take (hb.drop 2) (s := 2) (by omega) (by simp; omega)
      have c3 := be_take (hb.drop 4) (s := 4) (by omega) (by simp; omega)
      have c4 := be_take (hb.drop 8) (s := 4) (by omega) (by simp; omega)
      have c5 := be_take (hb.drop 12) (s := 1) (by omega) (by simp; omega)
      have c6 := be_take (hb.drop 13) (s := 1) (by omega) (by simp; omega)
      have one : ∀ i, i < b.length → num ((b.drop i).take 1) = b.getD i 0 := by
        intro i hi
        rw [drop_cons hi 0]
        have := hb.get i
        show st 0 (b.getD i 0) = b.getD i 0
        unfold st; omega
      have o1 := one 12 (by omega)
      have o2 := one 13 (by omega)
      rw [← v1] at n1 c1; rw [← v2] at n2 c2; rw [← v3] at n3 c3; rw [← v4] at n4 c4; rw [← v5] at n5 c5 o1; rw [← v6] at n6 c6 o2
      refine ⟨n1, n2, n3, n4, n5, n6, by rw [← g6]; exact hb.drop _, by rw [← g6]; simp; omega, ?_, g6.symm, o1, o2⟩
      unfold hdB
      rw [c1, c2, c3, c4, c5, c6, ← g6]
      have d : ∀ i k, (b.drop i).take k ++ b.drop (i + k) = b.drop i := by
        intro i k
        have := List.take_append_drop k (b.drop i)
        rwa [List.drop_drop] at this
      simp only [List.append_assoc]
      rw [d 13 1, d 12 1, d 8 4, d 4 4, d 2 2, List.take_append_drop]
theorem parse_is (b : List Int) (hb : Bytes b) (hl : b.length ≤ 4000) : Ev (fun n => f47_seg_Parse n b) (fun r => r = parseOf b) := by
  unfold f47_seg_Parse parseOf
  refine Ev.bind (get_is b [2, 2, 4, 4, 1, 1] (by omega) hb (by simp)) ?_
  rintro _ rfl
  rcases go6 hb with g | ⟨x0, x1, x2, x3, x4, x5, rest, g, a0, a1, a2, a3, a4, a5, hr, hrl, _⟩
  · rw [g]
    exact Ev.pos rfl (Ev.some rfl)
  rw [g]
  unfold ans
  dsimp only
  have y0 : ([x0, x1, x2, x3, x4, x5] : List Int).getD 0 0 = x0 := rfl
  have y1 : ([x0, x1, x2, x3, x4, x5] : List Int).getD 1 0 = x1 := rfl
  have y2 : ([x0, x1, x2, x3, x4, x5] : List Int).getD 2 0 = x2 := rfl
  have y3 : ([x0, x1, x2, x3, x4, x5] : List Int).getD 3 0 = x3 := rfl
  have y4 : ([x0, x1, x2, x3, x4, x5] : List Int).getD 4 0 = x4 := rfl
  have y5 : ([x0, x1, x2, x3, x4, x5] : List Int).getD 5 0 = x5 := rfl
  rw [y0, y1, y2, y3, y4, y5, i64_id (e := x5) (by omega) (by omega), i64_id (e := (rest.length : Int) - x5) (by omega) (by omega), u16_id a0.1 a0.2, u16_id a1.1 a1.2, u32_id a2.1 a2.2, u32_id a3.1 a3.2, u8_id a4.1 a4.2, List.take_length]
  refine Ev.neg (by simp) (Ev.guard ⟨by decide, by simp⟩ (Ev.ite (fun c => Ev.some ?_) fun c => Ev.guard ⟨by decide, by simp⟩ (Ev.guard ⟨by decide, by simp⟩ (Ev.guard ⟨by decide, by simp⟩ (Ev.guard ⟨by decide, by simp⟩ (Ev.guard ⟨by decide, by simp⟩ (Ev.guard ⟨by decide, by simp⟩ (Ev.ite (fun c2 => Ev.some ?_) fun c2 => Ev.ite (fun c3 => Ev.some ?_) fun c3 => Ev.guard ?_ ?_))))))))
  · rw [decide_eq_true_eq] at c; rw [if_pos c]; rfl
  · rw [decide_eq_true_eq] at c c2; rw [if_neg c, if_pos c2]; rfl
  · rw [decide_eq_true_eq] at c c2 c3; rw [if_neg c, if_neg c2, if_pos c3]; rfl
  · rw [decide_eq_true_eq] at c2 c3; simp [cutOk]; omega
  rw [decide_eq_true_eq] at c c2 c3
  rw [if_neg c, if_neg c2, if_neg c3]
  refine Ev.bind (opts_is 4000 (rest.take x5.toNat) (hr.take _) (by simp only [List.length_take]; omega) (by omega)) ?_
  rintro _ rfl
  cases optsP 4000 (rest.take x5.toNat) with
  | none => exact Ev.pos rfl (Ev.some rfl)
  | some l =>
    dsimp only
    refine Ev.neg (by simp) (Ev.ite (fun d => Ev.some ?_) fun d => Ev.guard ?_ (Ev.guard ?_ (Ev.some ?_)))
    · rw [decide_eq_true_eq] at d; rw [if_pos d]; rfl
    · simp [cutOk]; omega
    · simp only [List.length_drop, maxLen]; omega
    · rw [decide_eq_true_eq] at d; rw [if_neg d]
theorem parse_enc {s0 s1 s2 s3 s4 : Int} {l : List O} {d : List Int} (h0 : U16 s0) (h1 : U16 s1) (h2 : U32 s2) (h3 : U32 s3) (h4 : U8 s4) (h : rightOf s4 l d = 0) : parseOf (encOf s0 s1 s2 s3 s4 l d) = (0, s0, s1, s2, s3, s4, l, d) := by
  obtain ⟨r1, r2, r3⟩ := right_zero h
  have hlen := okO_len l 0 (by omega) r2
  have hu : U8 ((optsB l).length : Int) := by constructor <;> omega
  have g1 := go_be 2 s0 (be 2 s1 ++ (be 4 s2 ++ (be 4 s3 ++ (be 1 s4 ++ (be 1 ((optsB l).length : Int) ++ (optsB l ++ d)))))) [2, 4, 4, 1, 1] (by omega) (by rw [q2]; exact h0)
  have g2 := go_be 2 s1 (be 4 s2 ++ (be 4 s3 ++ (be 1 s4 ++ (be 1 ((optsB l).length : Int) ++ (optsB l ++ d))))) [4, 4, 1, 1] (by omega) (by rw [q2]; exact h1)
  have g3 := go_be 4 s2 (be 4 s3 ++ (be 1 s4 ++ (be 1 ((optsB l).length : Int) ++ (optsB l ++ d)))) [4, 1, 1] (by omega) (by rw [p4]; exact h2)
  have g4 := go_be 4 s3 (be 1 s4 ++ (be 1 ((optsB l).length : Int) ++ (optsB l ++ d))) [1, 1] (by omega) (by rw [p4]; exact h3)
  have g5 := go_be 1 s4 (be 1 ((optsB l).length : Int) ++ (optsB l ++ d)) [1] (by omega) (by rw [p1]; exact h4)
  have g6 := go_be 1 ((optsB l).length : Int) (optsB l ++ d) [] (by omega) (by rw [p1]; exact hu)
  rw [show ((2 : Nat) : Int) = 2 from rfl] at g1 g2
  rw [show ((4 : Nat) : Int) = 4 from rfl] at g3 g4
  rw [show ((1 : Nat) : Int) = 1 from rfl] at g5 g6
  have hg : go (encOf s0 s1 s2 s3 s4 l d) [2, 2, 4, 4, 1, 1] = some ([s0, s1, s2, s3, s4, ((optsB l).length : Int)], optsB l ++ d) := by
    unfold encOf hdB
    simp only [List.append_assoc]
    rw [g1, g2, g3, g4, g5, g6]
    rfl
  unfold parseOf
  rw [hg]
  dsimp only
  rw [if_neg (by omega), if_neg (by omega), if_neg (by simp; omega), Int.toNat_natCast, List.take_left, List.drop_left, optsP_optsB l 4000 0 r2 (by omega)]
  dsimp only
  rw [if_neg (by simp only [List.length_append]; omega)]
theorem enc_parse {b : List Int} (hb : Bytes b) {s0 s1 s2 s3 s4 : Int} {l : List O} {d : List Int} (h : parseOf b = (0, s0, s1, s2, s3, s4, l, d)) :
    U16 s0 ∧ U16 s1 ∧ U32 s2 ∧ U32 s3 ∧ U8 s4 ∧ rightOf s4 l d = 0 ∧ encOf s0 s1 s2 s3 s4 l d = b ∧ l.length ≤ 1000 ∧ ∀ o ∈ l, o.2.length ≤ 100000 := by
  unfold parseOf at h
  rcases go6 hb with g | ⟨x0, x1, x2, x3, x4, x5, rest, g, a0, a1, a2, a3, a4, a5, hr, hrl, hbb, _⟩
  · rw [g] at h; dsimp only [er] at h; injection h with h1 h2; omega
  rw [g] at h
  dsimp only at h
  split at h
  · dsimp only [er] at h; injection h with h1 h2; omega
  rename_i c
  split at h
  · dsimp only [er] at h; injection h with h1 h2; omega
  rename_i c2
  split at h
  · dsimp only [er] at h; injection h with h1 h2; omega
  rename_i c3
  split at h
  · dsimp only [er] at h; injection h with h1 h2; omega
  rename_i l' ho
  split at h
  · dsimp only [er] at h; injection h with h1 h2; omega
  rename_i c4
  simp only [Prod.mk.injEq, true_and] at h
  obtain ⟨rfl, rfl, rfl, rfl, rfl, rfl, rfl⟩ := h
  have htl : (rest.take x5.toNat).length = x5.toNat := by rw [List.length_take]; omega
  obtain ⟨i1, i2, i3, i4⟩ := optsB_optsP 4000 (rest.take x5.toNat) l' 0 (hr.take _) ho (by rw [htl]; omega)
  have hdl : (rest.drop x5.toNat).length = rest.length - x5.toNat := by simp
  refine ⟨a0, a1, a2, a3, a4, ?_, ?_, by omega, fun o h5 => by have := i4 o h5; omega⟩
  · unfold rightOf
    rw [if_neg c, if_pos i2, if_neg (by omega)]
  · unfold encOf
    rw [i1, htl, show ((x5.toNat : Nat) : Int) = x5 by omega, List.take_append_drop]
    exact hbb.symm
theorem parse_err (b : List Int) : (parseOf b).1 = 0 ∨ parseOf b = er (parseOf b).1 := by
  unfold parseOf
  split
  · split
    · exact .inr rfl
    · split
      · exact .inr rfl
      · split
        · exact .inr rfl
        · split
          · exact .inr rfl
          · split
            · exact .inr rfl
            · exact .inl rfl
  · exact .inr rfl
theorem sameOpt (o : Int) (b : List Int) : f18_broughamref07_SameOption o b o b = some true := by
  unfold f18_broughamref07_SameOption
  rw [if_pos (by simp), str_refl]
theorem sameLoop (a0 a1 a2 a3 a4 : Int) (l : List O) (d : List Int) (hl : l.length ≤ 1000) : ∀ (m i : Nat), i + m = l.length → Ev (fun n => f49_broughamref07_Same_L4 n (i : Int) a0 a1 a2 a3 a4 l d a0 a1 a2 a3 a4 l d) (fun r => r = .inr ())
  | 0, i, hi => by
    apply Ev.succ
    simp only [f49_broughamref07_Same_L4]
    exact Ev.neg (by simp; omega) (Ev.some rfl)
  | m + 1, i, hi => by
    apply Ev.succ
    simp only [f49_broughamref07_Same_L4]
    refine Ev.pos (by simp; omega) (Ev.guard (by omega) (Ev.guard (by omega) ?_))
    refine Ev.bind (Ev.of (sameOpt _ _) rfl) ?_
    rintro _ rfl
    refine Ev.neg (by simp) ?_
    rw [nx (by omega)]
    exact sameLoop a0 a1 a2 a3 a4 l d hl m (i + 1) (by omega)
theorem same_is (a0 a1 a2 a3 a4 : Int) (l : List O) (d : List Int) (hl : l.length ≤ 1000) : Ev (fun n => f49_broughamref07_Same n a0 a1 a2 a3 a4 l d a0 a1 a2 a3 a4 l d) (fun r => r = true) := by
  unfold f49_broughamref07_Same
  refine Ev.neg (by simp) (Ev.neg (by simp) (Ev.neg (by simp) (Ev.neg (by simp) (Ev.neg (by simp) (Ev.neg (by simp) (Ev.neg (by simp) ?_))))))
  refine Ev.bind (sameLoop a0 a1 a2 a3 a4 l d hl l.length 0 (by omega)) ?_
  rintro _ rfl
  exact Ev.some rfl
theorem optsB_bytes : ∀ (l : List O), (∀ o ∈ l, U8 o.1 ∧ Bytes o.2 ∧ o.2.length ≤ 255) → Bytes (optsB l)
  | [], _ => Bytes.nil
  | o :: l, h => by
    obtain ⟨h1, h2, h3⟩ := h o (by simp)
    unfold optsB
    exact ((Bytes.cons h1 (Bytes.cons (by constructor <;> omega) Bytes.nil)).append h2).append (optsB_bytes l (fun x hx => h x (by simp [hx])))
theorem okO_mem : ∀ (l : List O) (n : Int), okO n l = true → ∀ o ∈ l, o.2.length ≤ 255
  | [], _, _, _, h => by cases h
  | o :: l, n, h, x, hx => by
    rw [okO_cons] at h
    rcases List.mem_cons.1 hx with rfl | h2
    · exact h.1.2.1
    · exact okO_mem l _ h.2 x h2

theorem second (b : List Int) (hb : Bytes b) (hl : b.length ≤ 3000) : Ev (fun n =>
    (f47_seg_Parse n b).bind fun r =>
    (f40_seg_Encode n r.2.1 r.2.2.1 r.2.2.2.1 r.2.2.2.2.1 r.2.2.2.2.2.1 r.2.2.2.2.2.2.1 r.2.2.2.2.2.2.2).bind fun q =>
    if ((r.1 : Int) != 0) = true then
      (f46_broughamlaw07_alive n).bind fun a => some a
    else
      if ((q.2 : Int) == 0) = true then
        if ((strOfNums q.1).toList == (strOfNums b).toList) = true then
          (f46_broughamlaw07_alive n).bind fun a => some a
        else
          some false
      else
        some false) (fun r => r = true) := by
  have fin : Ev (fun n => (f46_broughamlaw07_alive n).bind fun a => some a) (fun r => r = true) := Ev.bind alive_ev (fun r hr => Ev.some hr)
  refine Ev.bind (parse_is b hb (by omega)) ?_
  rintro _ rfl
  rcases parse_err b with h | h
  · obtain ⟨s0, s1, s2, s3, s4, l, d, e⟩ : ∃ s0 s1 s2 s3 s4 l d, parseOf b = (0, s0, s1, s2, s3, s4, l, d) := ⟨_, _, _, _, _, _, _, by rw [← h]⟩
    rw [e]
    obtain ⟨a0, a1, a2, a3, a4, a5, a6, a7, a8⟩ := enc_parse hb e
    refine Ev.bind (enc_is s0 s1 s2 s3 s4 l d a0 a1 a2 a3 a4 a7 a8) ?_
    rw [if_pos a5, a6]
    rintro _ rfl
    exact Ev.neg (by simp) (Ev.pos rfl (Ev.pos (str_refl _) fin))
  · by_cases h0 : (parseOf b).1 = 0
    · obtain ⟨s0, s1, s2, s3, s4, l, d, e⟩ : ∃ s0 s1 s2 s3 s4 l d, parseOf b = (0, s0, s1, s2, s3, s4, l, d) := ⟨_, _, _, _, _, _, _, by rw [← h0]⟩
      rw [e]
      obtain ⟨a0, a1, a2, a3, a4, a5, a6, a7, a8⟩ := enc_parse hb e
      refine Ev.bind (enc_is s0 s1 s2 s3 s4 l d a0 a1 a2 a3 a4 a7 a8) ?_
      rw [if_pos a5, a6]
      rintro _ rfl
      exact Ev.neg (by simp) (Ev.pos rfl (Ev.pos (str_refl _) fin))
    · generalize (parseOf b).1 = k at h h0
      rw [h]
      refine Ev.bind (enc_is 0 0 0 0 0 [] [] (by constructor <;> decide) (by constructor <;> decide) (by constructor <;> decide) (by constructor <;> decide) (by constructor <;> decide) (by simp) (fun o ho => by cases ho)) ?_
      intro q _
      exact Ev.pos (by rw [bne_iff_ne]; exact h0) fin

theorem SegBack (s : Int × Int × Int × Int × Int × List (Int × List Int) × List Int) (h0 : K.ok (.pair (.int .u16) (.pair (.int .u16) (.pair (.int .u32) (.pair (.int .u32) (.pair (.int .u8) (.pair (.slice (.pair (.int .u8) (.slice (.int .u8)))) (.slice (.int .u8)))))))) s) (b : List Int) (h1 : K.ok (.slice (.int .u8)) b) :
    ∃ n, f8_broughamlaw07_SegBack n s.1 s.2.1 s.2.2.1 s.2.2.2.1 s.2.2.2.2.1 s.2.2.2.2.2.1 s.2.2.2.2.2.2 b = some true := by
  obtain ⟨s0, s1, s2, s3, s4, l, d⟩ := s
  obtain ⟨a0, a1, a2, a3, a4, a5, a6⟩ := h0
  have h0 := ok_u16 a0; have hs1 := ok_u16 a1; have h2 := ok_u32 a2; have h3 := ok_u32 a3; have h4 := ok_u8 a4
  have hb := ok_bytes h1
  apply Ev.true
  unfold f8_broughamlaw07_SegBack
  dsimp only
  refine Ev.bind (great_is s0 s1 s2 s3 s4 l d) ?_
  rintro _ (rfl | ⟨rfl, g1, g2, g3⟩)
  · exact Ev.pos rfl (Ev.some rfl)
  refine Ev.neg (by simp) (Ev.ite (fun _ => Ev.some rfl) fun hl => ?_)
  rw [decide_eq_true_eq] at hl
  have hbo : ∀ o ∈ l, o.2.length ≤ 100000 := fun o ho => by have := g3 o ho; omega
  refine Ev.bind (enc_is s0 s1 s2 s3 s4 l d h0 hs1 h2 h3 h4 (by omega) hbo) ?_
  rintro _ rfl
  by_cases hr : rightOf s4 l d = 0
  · rw [if_pos hr]
    obtain ⟨r1, r2, r3⟩ := right_zero hr
    have hlen := okO_len l 0 (by omega) r2
    have hu : U8 ((optsB l).length : Int) := by constructor <;> omega
    have hob : ∀ o ∈ l, U8 o.1 ∧ Bytes o.2 ∧ o.2.length ≤ 255 := fun o ho => ⟨ok_u8 (a5.2 o ho).1, ok_bytes (a5.2 o ho).2, okO_mem l 0 r2 o ho⟩
    have hby : Bytes (encOf s0 s1 s2 s3 s4 l d) := by
      unfold encOf hdB
      exact ((be_bytes _ _).append ((be_bytes _ _).append ((be_bytes _ _).append ((be_bytes _ _).append (be_bytes _ _))))).append ((be_bytes _ _).append ((optsB_bytes l hob).append (ok_bytes a6)))
    have hbl : (encOf s0 s1 s2 s3 s4 l d).length ≤ 4000 := by
      unfold encOf; simp only [List.length_append, hdB_len, be_len]; omega
    refine Ev.bind (parse_is _ hby hbl) ?_
    rw [parse_enc h0 hs1 h2 h3 h4 hr]
    rintro _ rfl
    refine Ev.pos rfl (Ev.neg (by simp) ?_)
    refine Ev.bind (same_is s0 s1 s2 s3 s4 l d (by omega)) ?_
    rintro _ rfl
    exact Ev.neg (by simp) (second b hb (by omega))
  · rw [if_neg hr]
    refine Ev.bind (parse_is [] Bytes.nil (by simp)) ?_
    intro q _
    exact Ev.neg (by rw [beq_iff_eq]; exact hr) (second b hb (by omega))
end Go.Proofs.YtddglebabaaghaaF07
