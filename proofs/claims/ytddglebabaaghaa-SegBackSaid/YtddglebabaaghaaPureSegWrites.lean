/- SegWrites: the bytes of each segment, or why it has none: of the functions that text F07 prints. Conditions: none. -/
import Derived.Test.YtddglebabaaghaaPureLib07
namespace Go.Proofs.YtddglebabaaghaaF07
open Go Zed
set_option linter.unusedVariables false
set_option linter.unusedSimpArgs false

theorem alive_at (m : Nat) : f46_broughamlaw07_alive (m + 60) = some true := by kernel_rfl
theorem alive_ev : Ev (fun n => f46_broughamlaw07_alive n) (fun r => r = true) := Ev.at 60 alive_at rfl
theorem nx {i : Nat} (h : i < 140737488355328) : IntKind.wrap .i64 ((i : Int) + 1) = ((i + 1 : Nat) : Int) := by rw [i64_id] <;> omega
abbrev U16 (x : Int) : Prop := 0 ≤ x ∧ x < 65536
theorem H_is {x : Int} (h : U16 x) : f85_pack_H x = some (2, x) := by unfold f85_pack_H; rw [u64_id h.1 (by omega)]
theorem f2 (v : Int) : fieldB (2, v) = be 2 v := rfl

/-- May these options be, behind so many bytes? -/
def okO : Int → List O → Bool
  | _, [] => true
  | n, o :: l => (decide (o.1 ≠ 0) && decide (o.2.length ≤ 255) && decide (n + (2 + (o.2.length : Int)) ≤ 200)) && okO (n + (2 + (o.2.length : Int))) l
def optsB : List O → List Int
  | [] => []
  | o :: l => [o.1, (o.2.length : Int)] ++ o.2 ++ optsB l
theorem okO_cons {n : Int} {o : O} {l : List O} : okO n (o :: l) = true ↔ (o.1 ≠ 0 ∧ o.2.length ≤ 255 ∧ n + (2 + (o.2.length : Int)) ≤ 200) ∧ okO (n + (2 + (o.2.length : Int))) l = true := by
  rw [okO]; simp only [Bool.and_eq_true, decide_eq_true_eq, and_assoc]
theorem okO_len : ∀ (l : List O) (n : Int), n ≤ 200 → okO n l = true → n + ((optsB l).length : Int) ≤ 200
  | [], n, h, _ => by simp [optsB]; exact h
  | o :: l, n, h, hk => by
    rw [okO_cons] at hk
    have := okO_len l _ hk.1.2.2 hk.2
    simp only [optsB, List.length_append, List.length_cons, List.length_nil]
    omega
/-- Why a segment may not be; 0: it may. -/
def rightOf (s4 : Int) (l : List O) (d : List Int) : Int := if s4 > 7 then 70 else if okO 0 l = true then (if (d.length : Int) > 1024 then 72 else 0) else 71

theorem rightLoop (s0 s1 s2 s3 s4 : Int) (l : List O) (d : List Int) (hl : l.length ≤ 1000) (hb : ∀ o ∈ l, o.2.length ≤ 100000) (m : Nat) : ∀ (i : Nat), i + m = l.length → ∀ (n : Int), 0 ≤ n → n ≤ 200 →
    Ev (fun q => f42_seg_Right_L5 q n l ((l.length : Nat) : Int) (i : Int) s0 s1 s2 s3 s4 l d) (fun r => r = if okO n (l.drop i) = true then .inr (s0, s1, s2, s3, s4, l, d) else .inl 71) := by
  induction m with
  | zero =>
    intro i hi n h0 h1
    apply Ev.succ
    simp only [f42_seg_Right_L5]
    rw [List.drop_eq_nil_of_le (by omega)]
    exact Ev.neg (by simp; omega) (Ev.some rfl)
  | succ m ih =>
    intro i hi n h0 h1
    apply Ev.succ
    simp only [f42_seg_Right_L5]
    have hm := hb _ (getD_mem (show i < l.length by omega) (0, []))
    rw [drop_cons (show i < l.length by omega) (0, []), Int.toNat_natCast, nx (by omega)]
    generalize l.getD i (0, []) = o at hm
    rw [i64_id (e := 2 + (o.2.length : Int)) (by omega) (by omega), i64_id (e := n + (2 + (o.2.length : Int))) (by omega) (by omega)]
    refine Ev.pos (by simp; omega) (Ev.guard (by omega) (Ev.ite (fun c => ?_) fun c1 => Ev.ite (fun c => ?_) fun c2 => Ev.ite (fun c => ?_) fun c3 => ?_))
    · rw [beq_iff_eq] at c
      exact Ev.some (by rw [if_neg]; rw [okO_cons]; exact fun h => h.1.1 c)
    · rw [decide_eq_true_eq] at c
      exact Ev.some (by rw [if_neg]; rw [okO_cons]; intro h; have := h.1.2.1; omega)
    · rw [decide_eq_true_eq] at c
      exact Ev.some (by rw [if_neg]; rw [okO_cons]; intro h; have := h.1.2.2; omega)
    · rw [beq_iff_eq] at c1
      rw [decide_eq_true_eq] at c2 c3
      have := ih (i + 1) (by omega) (n + (2 + (o.2.length : Int))) (by omega) (by omega)
      have e : okO n (o :: l.drop (i + 1)) = okO (n + (2 + (o.2.length : Int))) (l.drop (i + 1)) := by
        rw [okO, decide_eq_true (show o.1 ≠ 0 from c1), decide_eq_true (show o.2.length ≤ 255 by omega), decide_eq_true (show n + (2 + (o.2.length : Int)) ≤ 200 by omega)]; rfl
      rw [e]
      exact this
theorem right_is (s0 s1 s2 s3 s4 : Int) (l : List O) (d : List Int) (hl : l.length ≤ 1000) (hb : ∀ o ∈ l, o.2.length ≤ 100000) : Ev (fun q => f42_seg_Right q s0 s1 s2 s3 s4 l d) (fun r => r = rightOf s4 l d) := by
  unfold f42_seg_Right rightOf
  refine Ev.ite (fun c => Ev.some ?_) fun c => ?_
  · rw [decide_eq_true_eq] at c; rw [if_pos c]
  rw [decide_eq_true_eq] at c
  rw [if_neg c]
  refine Ev.bind (rightLoop s0 s1 s2 s3 s4 l d hl hb l.length 0 (by omega) 0 (by omega) (by omega)) ?_
  rw [List.drop_zero]
  rintro _ rfl
  by_cases h : okO 0 l = true
  · rw [if_pos h, if_pos h]
    refine Ev.ite (fun c => Ev.some ?_) fun c => Ev.some ?_
    · rw [decide_eq_true_eq] at c; rw [if_pos c]
    · rw [decide_eq_true_eq] at c; rw [if_neg c]
  · rw [if_neg h, if_neg h]
    exact Ev.some rfl
theorem refRightLoop (s0 s1 s2 s3 s4 : Int) (l : List O) (d : List Int) (hl : l.length ≤ 1000) (hb : ∀ o ∈ l, o.2.length ≤ 100000) (m : Nat) : ∀ (i : Nat), i + m = l.length → ∀ (n : Int), 0 ≤ n → n ≤ 1000 →
    Ev (fun q => f43_broughamref07_Right_L5 q n (i : Int) s0 s1 s2 s3 s4 l d) (fun r => (n ≤ 200 ∧ okO n (l.drop i) = true ∧ ∃ k, k ≤ 200 ∧ r = .inr (k, s0, s1, s2, s3, s4, l, d)) ∨ (¬ (n ≤ 200 ∧ okO n (l.drop i) = true) ∧ (r = .inl 71 ∨ ∃ k, k > 200 ∧ r = .inr (k, s0, s1, s2, s3, s4, l, d)))) := by
  induction m with
  | zero =>
    intro i hi n h0 h1
    apply Ev.succ
    simp only [f43_broughamref07_Right_L5]
    rw [List.drop_eq_nil_of_le (by omega)]
    refine Ev.neg (by simp; omega) (Ev.some ?_)
    by_cases h : n ≤ 200
    · exact .inl ⟨h, rfl, n, h, rfl⟩
    · exact .inr ⟨fun q => h q.1, .inr ⟨n, by omega, rfl⟩⟩
  | succ m ih =>
    intro i hi n h0 h1
    apply Ev.succ
    simp only [f43_broughamref07_Right_L5]
    have hm := hb _ (getD_mem (show i < l.length by omega) (0, []))
    rw [drop_cons (show i < l.length by omega) (0, []), Int.toNat_natCast, nx (by omega)]
    generalize l.getD i (0, []) = o at hm
    rw [i64_id (e := 2 + (o.2.length : Int)) (by omega) (by omega), i64_id (e := n + (2 + (o.2.length : Int))) (by omega) (by omega)]
    refine Ev.pos (by simp; omega) (Ev.guard (by omega) (Ev.ite (fun c => ?_) fun c1 => Ev.guard (by omega) (Ev.ite (fun c => ?_) fun c2 => Ev.ite (fun c => ?_) fun c3 => Ev.guard (by omega) ?_)))
    · rw [beq_iff_eq] at c
      exact Ev.some (.inr ⟨by rw [okO_cons]; exact fun h => h.2.1.1 c, .inl rfl⟩)
    · rw [decide_eq_true_eq] at c
      exact Ev.some (.inr ⟨by rw [okO_cons]; intro h; have := h.2.1.2.1; omega, .inl rfl⟩)
    · rw [decide_eq_true_eq] at c
      exact Ev.some (.inr ⟨fun h => by omega, .inl rfl⟩)
    · rw [beq_iff_eq] at c1
      rw [decide_eq_true_eq] at c2 c3
      refine (ih (i + 1) (by omega) (n + (2 + (o.2.length : Int))) (by omega) (by omega)).mono ?_
      rintro r (⟨q1, q2, q3⟩ | ⟨q1, q2⟩)
      · exact .inl ⟨by omega, by rw [okO_cons]; exact ⟨⟨c1, by omega, q1⟩, q2⟩, q3⟩
      · exact .inr ⟨by rw [okO_cons]; exact fun h => q1 ⟨h.2.1.2.2, h.2.2⟩, q2⟩
theorem refRight_is (s0 s1 s2 s3 s4 : Int) (l : List O) (d : List Int) (hl : l.length ≤ 1000) (hb : ∀ o ∈ l, o.2.length ≤ 100000) : Ev (fun q => f43_broughamref07_Right q s0 s1 s2 s3 s4 l d) (fun r => r = rightOf s4 l d) := by
  unfold f43_broughamref07_Right rightOf
  refine Ev.ite (fun c => Ev.some ?_) fun c => ?_
  · rw [decide_eq_true_eq] at c; rw [if_pos c]
  rw [decide_eq_true_eq] at c
  rw [if_neg c]
  refine Ev.bind (refRightLoop s0 s1 s2 s3 s4 l d hl hb l.length 0 (by omega) 0 (by omega) (by omega)) ?_
  rw [List.drop_zero]
  rintro _ (⟨_, h, k, hk, rfl⟩ | ⟨h, rfl | ⟨k, hk, rfl⟩⟩)
  · rw [if_pos h]
    refine Ev.neg (by simp; omega) (Ev.ite (fun c => Ev.some ?_) fun c => Ev.some ?_)
    · rw [decide_eq_true_eq] at c; rw [if_pos c]
    · rw [decide_eq_true_eq] at c; rw [if_neg c]
  · have h2 : ¬ okO 0 l = true := fun q => h ⟨by omega, q⟩
    rw [if_neg h2]
    exact Ev.some rfl
  · have h2 : ¬ okO 0 l = true := fun q => h ⟨by omega, q⟩
    rw [if_neg h2]
    exact Ev.pos (by simp; omega) (Ev.some rfl)

/-! The header. -/
def hdB (s0 s1 s2 s3 s4 : Int) : List Int := be 2 s0 ++ (be 2 s1 ++ (be 4 s2 ++ (be 4 s3 ++ be 1 s4)))
theorem hdB_len (s0 s1 s2 s3 s4 : Int) : (hdB s0 s1 s2 s3 s4).length = 13 := by unfold hdB; simp [be_len]
theorem header_is (s0 s1 s2 s3 s4 : Int) (l : List O) (d : List Int) (h0 : U16 s0) (h1 : U16 s1) (h2 : U32 s2) (h3 : U32 s3) (h4 : U8 s4) : Ev (fun q => f44_seg_Header q s0 s1 s2 s3 s4 l d) (fun r => r = hdB s0 s1 s2 s3 s4) := by
  simp only [f44_seg_Header, H_is h0, H_is h1, W_is h2, W_is h3, B_is h4, Option.bind_some]
  refine Ev.bind (put_is [] [(2, s0), (2, s1), (4, s2), (4, s3), (1, s4)] (by simp) (by simp) (fun x hx => by
    simp at hx; rcases hx with rfl | rfl | rfl | rfl | rfl
    · exact h0.1
    · exact h1.1
    · exact h2.1
    · exact h3.1
    · exact h4.1)) ?_
  rintro _ rfl
  refine Ev.some ?_
  rw [enc_cons, enc_cons, enc_cons, enc_cons, enc_cons, f2, f2, f4, f4, f1]
  simp [enc, hdB]
theorem refHeader_is (s0 s1 s2 s3 s4 : Int) (l : List O) (d : List Int) (h0 : U16 s0) (h1 : U16 s1) (h2 : U32 s2) (h3 : U32 s3) (h4 : U8 s4) : Ev (fun q => f45_broughamref07_Header q s0 s1 s2 s3 s4 l d) (fun r => r = hdB s0 s1 s2 s3 s4) := by
  unfold f45_broughamref07_Header
  rw [u64_id h0.1 (by omega), u64_id h1.1 (by omega), u64_id h2.1 (by omega), u64_id h3.1 (by omega)]
  refine Ev.bind (refPut2 2 s0 (by omega) ⟨h0.1, by omega⟩) ?_
  rintro _ rfl
  refine Ev.bind (refPut 2 _ s1 (by omega) (by rw [be_len]; omega) ⟨h1.1, by omega⟩) ?_
  rintro _ rfl
  refine Ev.bind (refPut 4 _ s2 (by omega) (by simp [be_len]) ⟨h2.1, by omega⟩) ?_
  rintro _ rfl
  refine Ev.bind (refPut 4 _ s3 (by omega) (by simp [be_len]) ⟨h3.1, by omega⟩) ?_
  rintro _ rfl
  refine Ev.guard (by simp [be_len, maxLen]) (Ev.some ?_)
  unfold hdB
  rw [be1 h4]
  simp only [List.append_assoc]

/-! The bytes. -/
theorem encLoop (s0 s1 s2 s3 s4 : Int) (l : List O) (d : List Int) (hl : l.length ≤ 1000) (m : Nat) : ∀ (i : Nat), i + m = l.length → ∀ (n : Int) (b : List Int), n ≤ 200 → okO n (l.drop i) = true → b.length ≤ 1000 + i * 300 →
    Ev (fun q => f40_seg_Encode_L6 q b l ((l.length : Nat) : Int) (i : Int) s0 s1 s2 s3 s4 l d) (fun r => r = (b ++ optsB (l.drop i), s0, s1, s2, s3, s4, l, d)) := by
  induction m with
  | zero =>
    intro i hi n b hn hk hb
    apply Ev.succ
    simp only [f40_seg_Encode_L6]
    rw [List.drop_eq_nil_of_le (by omega), optsB, List.append_nil]
    exact Ev.neg (by simp; omega) (Ev.some rfl)
  | succ m ih =>
    intro i hi n b hn hk hb
    apply Ev.succ
    simp only [f40_seg_Encode_L6]
    rw [drop_cons (show i < l.length by omega) (0, [])] at hk ⊢
    rw [Int.toNat_natCast, nx (by omega)]
    generalize l.getD i (0, []) = o at hk
    rw [okO_cons] at hk
    rw [u8_id (e := (o.2.length : Int)) (by omega) (by omega)]
    refine Ev.pos (by simp; omega) (Ev.guard (by omega) (Ev.guard ?_ (Ev.guard ?_ ?_)))
    · simp only [List.length_cons, List.length_nil, maxLen]; omega
    · simp only [List.length_append, List.length_cons, List.length_nil, maxLen]; omega
    · have := ih (i + 1) (by omega) _ (b ++ [o.1, (o.2.length : Int)] ++ o.2) hk.1.2.2 hk.2 (by simp only [List.length_append, List.length_cons, List.length_nil]; omega)
      rw [show b ++ optsB (o :: l.drop (i + 1)) = b ++ [o.1, (o.2.length : Int)] ++ o.2 ++ optsB (l.drop (i + 1)) by simp [optsB]]
      exact this
theorem refEncLoop (s0 s1 s2 s3 s4 : Int) (l : List O) (d : List Int) (hl : l.length ≤ 1000) (m : Nat) : ∀ (i : Nat), i + m = l.length → ∀ (n : Int) (b : List Int), n ≤ 200 → okO n (l.drop i) = true → b.length ≤ 1000 + i * 300 →
    Ev (fun q => f41_broughamref07_Encode_L6 q b (i : Int) s0 s1 s2 s3 s4 l d) (fun r => r = (b ++ optsB (l.drop i), s0, s1, s2, s3, s4, l, d)) := by
  induction m with
  | zero =>
    intro i hi n b hn hk hb
    apply Ev.succ
    simp only [f41_broughamref07_Encode_L6]
    rw [List.drop_eq_nil_of_le (by omega), optsB, List.append_nil]
    exact Ev.neg (by simp; omega) (Ev.some rfl)
  | succ m ih =>
    intro i hi n b hn hk hb
    apply Ev.succ
    simp only [f41_broughamref07_Encode_L6]
    rw [drop_cons (show i < l.length by omega) (0, [])] at hk ⊢
    rw [Int.toNat_natCast, nx (by omega)]
    generalize l.getD i (0, []) = o at hk
    rw [okO_cons] at hk
    rw [u8_id (e := (o.2.length : Int)) (by omega) (by omega)]
    refine Ev.pos (by simp; omega) (Ev.guard (by omega) (Ev.guard (by omega) (Ev.guard ?_ (Ev.guard (by omega) (Ev.guard ?_ ?_)))))
    · simp only [List.length_cons, List.length_nil, maxLen]; omega
    · simp only [List.length_append, List.length_cons, List.length_nil, maxLen]; omega
    · have := ih (i + 1) (by omega) _ (b ++ [o.1, (o.2.length : Int)] ++ o.2) hk.1.2.2 hk.2 (by simp only [List.length_append, List.length_cons, List.length_nil]; omega)
      rw [show b ++ optsB (o :: l.drop (i + 1)) = b ++ [o.1, (o.2.length : Int)] ++ o.2 ++ optsB (l.drop (i + 1)) by simp [optsB]]
      exact this
def encOf (s0 s1 s2 s3 s4 : Int) (l : List O) (d : List Int) : List Int := hdB s0 s1 s2 s3 s4 ++ (be 1 ((optsB l).length : Int) ++ (optsB l ++ d))
theorem right_zero {s4 : Int} {l : List O} {d : List Int} (h : rightOf s4 l d = 0) : s4 ≤ 7 ∧ okO 0 l = true ∧ d.length ≤ 1024 := by
  unfold rightOf at h
  split at h
  · omega
  · split at h
    · split at h
      · omega
      · exact ⟨by omega, by assumption, by omega⟩
    · omega
theorem enc_is (s0 s1 s2 s3 s4 : Int) (l : List O) (d : List Int) (h0 : U16 s0) (h1 : U16 s1) (h2 : U32 s2) (h3 : U32 s3) (h4 : U8 s4) (hl : l.length ≤ 1000) (hb : ∀ o ∈ l, o.2.length ≤ 100000) :
    Ev (fun q => f40_seg_Encode q s0 s1 s2 s3 s4 l d) (fun r => r = if rightOf s4 l d = 0 then (encOf s0 s1 s2 s3 s4 l d, 0) else ([], rightOf s4 l d)) := by
  unfold f40_seg_Encode
  refine Ev.bind (right_is s0 s1 s2 s3 s4 l d hl hb) ?_
  rintro _ rfl
  refine Ev.ite (fun c => Ev.some ?_) fun c => ?_
  · rw [bne_iff_ne] at c; rw [if_neg c]
  have c2 : rightOf s4 l d = 0 := by
    rw [bne_iff_ne] at c; exact Classical.not_not.1 c
  obtain ⟨r1, r2, r3⟩ := right_zero c2
  have hlen := okO_len l 0 (by omega) r2
  rw [if_pos c2]
  refine Ev.bind (encLoop s0 s1 s2 s3 s4 l d hl l.length 0 (by omega) 0 [] (by omega) (by rw [List.drop_zero]; exact r2) (by simp)) ?_
  rw [List.drop_zero, List.nil_append]
  rintro _ rfl
  refine Ev.bind (header_is s0 s1 s2 s3 s4 l d h0 h1 h2 h3 h4) ?_
  rintro _ rfl
  dsimp only
  have hu : U8 ((optsB l).length : Int) := by constructor <;> omega
  rw [u8_id hu.1 hu.2]
  refine Ev.bind (Ev.of (B_is hu) rfl) ?_
  rintro _ rfl
  refine Ev.bind (put_is _ [(1, ((optsB l).length : Int))] (by rw [hdB_len]; omega) (by simp) (fun x hx => by simp at hx; subst hx; exact hu.1)) ?_
  rintro _ rfl
  rw [enc_cons, f1]
  refine Ev.guard ?_ (Ev.guard ?_ (Ev.some ?_))
  · simp only [List.length_append, hdB_len, be_len, enc, List.flatMap_nil, List.length_nil, maxLen]; omega
  · simp only [List.length_append, hdB_len, be_len, enc, List.flatMap_nil, List.length_nil, maxLen]; omega
  · simp [enc, encOf]
theorem refEnc_is (s0 s1 s2 s3 s4 : Int) (l : List O) (d : List Int) (h0 : U16 s0) (h1 : U16 s1) (h2 : U32 s2) (h3 : U32 s3) (h4 : U8 s4) (hl : l.length ≤ 1000) (hb : ∀ o ∈ l, o.2.length ≤ 100000) :
    Ev (fun q => f41_broughamref07_Encode q s0 s1 s2 s3 s4 l d) (fun r => r = if rightOf s4 l d = 0 then (encOf s0 s1 s2 s3 s4 l d, 0) else ([], rightOf s4 l d)) := by
  unfold f41_broughamref07_Encode
  refine Ev.bind (refRight_is s0 s1 s2 s3 s4 l d hl hb) ?_
  rintro _ rfl
  refine Ev.ite (fun c => Ev.some ?_) fun c => ?_
  · rw [bne_iff_ne] at c; rw [if_neg c]
  have c2 : rightOf s4 l d = 0 := by
    rw [bne_iff_ne] at c; exact Classical.not_not.1 c
  obtain ⟨r1, r2, r3⟩ := right_zero c2
  have hlen := okO_len l 0 (by omega) r2
  rw [if_pos c2]
  refine Ev.bind (refEncLoop s0 s1 s2 s3 s4 l d hl l.length 0 (by omega) 0 [] (by omega) (by rw [List.drop_zero]; exact r2) (by simp)) ?_
  rw [List.drop_zero, List.nil_append]
  rintro _ rfl
  refine Ev.bind (refHeader_is s0 s1 s2 s3 s4 l d h0 h1 h2 h3 h4) ?_
  rintro _ rfl
  dsimp only
  have hu : U8 ((optsB l).length : Int) := by constructor <;> omega
  rw [u8_id hu.1 hu.2]
  refine Ev.guard ?_ (Ev.guard ?_ (Ev.guard ?_ (Ev.some ?_)))
  · simp only [List.length_append, hdB_len, List.length_cons, List.length_nil, maxLen]; omega
  · simp only [List.length_append, hdB_len, List.length_cons, List.length_nil, maxLen]; omega
  · simp only [List.length_append, hdB_len, List.length_cons, List.length_nil, maxLen]; omega
  · unfold encOf; rw [be1 hu]; simp only [List.append_assoc]

theorem SegWrites (s : Int × Int × Int × Int × Int × List (Int × List Int) × List Int) (h0 : K.ok (.pair (.int .u16) (.pair (.int .u16) (.pair (.int .u32) (.pair (.int .u32) (.pair (.int .u8) (.pair (.slice (.pair (.int .u8) (.slice (.int .u8)))) (.slice (.int .u8)))))))) s) :
    ∃ n, f6_broughamlaw07_SegWrites n s.1 s.2.1 s.2.2.1 s.2.2.2.1 s.2.2.2.2.1 s.2.2.2.2.2.1 s.2.2.2.2.2.2 = some true := by
  obtain ⟨s0, s1, s2, s3, s4, l, d⟩ := s
  obtain ⟨a0, a1, a2, a3, a4, a5, a6⟩ := h0
  have h0 := ok_u16 a0; have h1 := ok_u16 a1; have h2 := ok_u32 a2; have h3 := ok_u32 a3; have h4 := ok_u8 a4
  apply Ev.true
  unfold f6_broughamlaw07_SegWrites
  dsimp only
  refine Ev.bind (great_is s0 s1 s2 s3 s4 l d) ?_
  rintro _ (rfl | ⟨rfl, g1, g2, g3⟩)
  · exact Ev.pos rfl (Ev.some rfl)
  refine Ev.neg (by simp) ?_
  have hb : ∀ o ∈ l, o.2.length ≤ 100000 := fun o ho => by have := g3 o ho; omega
  refine Ev.bind (enc_is s0 s1 s2 s3 s4 l d h0 h1 h2 h3 h4 (by omega) hb) ?_
  rintro _ rfl
  refine Ev.bind (refEnc_is s0 s1 s2 s3 s4 l d h0 h1 h2 h3 h4 (by omega) hb) ?_
  rintro _ rfl
  refine Ev.pos (str_refl _) (Ev.pos (by rw [beq_iff_eq]) ?_)
  refine Ev.bind (right_is s0 s1 s2 s3 s4 l d (by omega) hb) ?_
  rintro _ rfl
  refine Ev.bind (refRight_is s0 s1 s2 s3 s4 l d (by omega) hb) ?_
  rintro _ rfl
  refine Ev.pos (by rw [beq_iff_eq]) ?_
  refine Ev.bind (header_is s0 s1 s2 s3 s4 l d h0 h1 h2 h3 h4) ?_
  rintro _ rfl
  refine Ev.bind (refHeader_is s0 s1 s2 s3 s4 l d h0 h1 h2 h3 h4) ?_
  rintro _ rfl
  refine Ev.pos (str_refl _) ?_
  exact Ev.bind alive_ev (fun r hr => Ev.some hr)
end Go.Proofs.YtddglebabaaghaaF07
