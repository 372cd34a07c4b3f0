/- MacOpens: what the sealed options of any segment say, whose sums are right, as the document says: of the functions that text F10 prints. Conditions: none. -/
import Derived.Test.YtddglebabaaghaaPureMacCovers
namespace Go.Proofs.YtddglebabaaghaaF10
open Go Zed
set_option linter.unusedVariables false
set_option linter.unusedSimpArgs false

theorem refOpen_is (a c : Int) (s : Seg) (h : s.ok) (s5 : List O) (h5 : Opts s5) : Ev (fun n => f59_broughamref10_Open n a c s.s0 s.s1 s.s2 s.s3 s.s4 s5 s.s6) (fun r => r = open_ a c s s5) := by
  simp only [f59_broughamref10_Open]
  refine Ev.bind (refOne_is _ _ _ _ _ _ _ _ h5.1) ?_
  rintro _ rfl
  unfold open_
  rcases ho : one 3 s5 with ⟨_ | _, k, b⟩
  · exact Ev.pos rfl (Ev.some rfl)
  · obtain ⟨hm, hk⟩ := one_mem (o := (k, b)) ho
    dsimp only at hk
    obtain ⟨h1, h2, h3⟩ := h5.2 _ hm
    refine Ev.neg (by simp) (Ev.bind (refPdata_is k b h2 h3) ?_)
    rintro _ rfl
    dsimp only
    rcases hp : pdata k b with ⟨_ | _, x0, x1, x2, x3, x4, x5⟩
    · exact Ev.pos rfl (Ev.some rfl)
    · subst hk
      refine Ev.neg (by simp) (Ev.bind (refTag_is a c s h s5 3 b (by decide) h2 h3) ?_)
      rintro _ rfl
      dsimp only
      by_cases ht : tag a c s 3 b = x5
      · rw [if_pos ht]; exact Ev.neg (by simp [bne, ht]) (Ev.some rfl)
      · rw [if_neg ht]; exact Ev.pos (by simp [bne]; exact fun e => ht e.symm) (Ev.some rfl)

abbrev WT := Int × Int × Int × Int × Bool × Int
/-- A word of an option whose sum is right. -/
def wordOf (a c : Int) (s : Seg) (o : O) : Option WT := if (pword o.1 o.2).1 = true ∧ tag a c s o.1 o.2 = (pword o.1 o.2).2.2.2.2.2.2 then some (pword o.1 o.2).2 else none
def wopts (a c : Int) (s : Seg) (l : List O) : List O := l.filter fun o => (wordOf a c s o).isSome
def words (a c : Int) (s : Seg) (l : List O) : List WT := l.filterMap (wordOf a c s)
theorem words_len (a c : Int) (s : Seg) (l : List O) : (words a c s l).length ≤ l.length := List.length_filterMap_le _ _
theorem take_words (a c : Int) (s : Seg) (l : List O) {i : Nat} (h : i < l.length) : words a c s (l.take (i + 1)) = words a c s (l.take i) ++ (wordOf a c s (l.getD i (0, []))).toList := by
  rw [take_snoc l h]; unfold words; rw [List.filterMap_append]
  generalize l.getD i (0, []) = o
  cases h2 : wordOf a c s o <;> simp [List.filterMap, h2]
theorem take_wopts (a c : Int) (s : Seg) (l : List O) {i : Nat} (h : i < l.length) : wopts a c s (l.take (i + 1)) = wopts a c s (l.take i) ++ (if (wordOf a c s (l.getD i (0, []))).isSome then [l.getD i (0, [])] else []) := by
  rw [take_snoc l h]; unfold wopts; rw [List.filter_append]
  generalize l.getD i (0, []) = o
  cases h2 : wordOf a c s o <;> simp [List.filter, h2]

theorem wordsLoop (a c : Int) (s : Seg) (h : s.ok) (l : List O) (hl : Opts l) : ∀ (m i : Nat), i + m = l.length →
    Ev (fun n => f60_mac_Words_L3 n (words a c s (l.take i)) l ((l.length : Nat) : Int) i a c s.s0 s.s1 s.s2 s.s3 s.s4 l s.s6) (fun r => r = words a c s l)
  | 0, i, hi => by
    apply Ev.succ
    simp only [f60_mac_Words_L3]
    exact Ev.neg (by simp; omega) (Ev.some (by rw [List.take_of_length_le (by omega)]))
  | m + 1, i, hi => by
    apply Ev.succ
    simp only [f60_mac_Words_L3]
    have hil : i < l.length := by omega
    have ih := wordsLoop a c s h l hl m (i + 1) (by omega)
    rw [take_words a c s l hil] at ih
    obtain ⟨h1, h2, h3⟩ := hl.2 _ (getD_mem hil (0, []))
    have hle : (words a c s (l.take i)).length ≤ i := by have := words_len a c s (l.take i); simp at this; omega
    have hl1 := hl.1
    rw [Int.toNat_natCast, i64_id (show -9223372036854775808 ≤ (i : Int) + 1 by omega) (by omega), show (i : Int) + 1 = ((i + 1 : Nat) : Int) by omega]
    generalize l.getD i (0, []) = o at *
    unfold wordOf at ih
    refine Ev.pos (by simp; omega) (Ev.guard (by omega) (Ev.bind (pword_is o.1 o.2 h2 h3) ?_))
    rintro _ rfl
    refine Ev.ite (fun hp => Ev.bind (right_is a c s h l o.1 o.2 _ h1 h3) ?_) (fun hp => ?_)
    · rintro _ rfl
      refine Ev.ite (fun ht => ?_) (fun ht => ?_)
      · rw [if_pos ⟨hp, by simpa using ht⟩] at ih
        exact Ev.guard (by simp [maxLen]; omega) ih
      · rw [if_neg (fun q => ht (by simpa using q.2))] at ih
        simpa using ih
    · rw [if_neg (fun q => hp q.1)] at ih
      simpa using ih
theorem words_is (a c : Int) (s : Seg) (h : s.ok) (l : List O) (hl : Opts l) : Ev (fun n => f60_mac_Words n a c s.s0 s.s1 s.s2 s.s3 s.s4 l s.s6) (fun r => r = words a c s l) := by
  simp only [f60_mac_Words]
  refine Ev.bind (wordsLoop a c s h l hl l.length 0 (by omega)) ?_
  rintro _ rfl
  exact Ev.some rfl
theorem wopts_len (a c : Int) (s : Seg) (l : List O) : (wopts a c s l).length ≤ l.length := List.length_filter_le _ _
theorem refWordsLoop (a c : Int) (s : Seg) (h : s.ok) (l : List O) (hl : Opts l) : ∀ (m i : Nat), i + m = l.length →
    Ev (fun n => f61_broughamref10_Words_L3 n (wopts a c s (l.take i)) i a c s.s0 s.s1 s.s2 s.s3 s.s4 l s.s6) (fun r => r = wopts a c s l)
  | 0, i, hi => by
    apply Ev.succ
    simp only [f61_broughamref10_Words_L3]
    exact Ev.neg (by simp; omega) (Ev.some (by rw [List.take_of_length_le (by omega)]))
  | m + 1, i, hi => by
    apply Ev.succ
    simp only [f61_broughamref10_Words_L3]
    have hil : i < l.length := by omega
    have ih := refWordsLoop a c s h l hl m (i + 1) (by omega)
    rw [take_wopts a c s l hil] at ih
    obtain ⟨h1, h2, h3⟩ := hl.2 _ (getD_mem hil (0, []))
    have hle : (wopts a c s (l.take i)).length ≤ i := by have := wopts_len a c s (l.take i); simp at this; omega
    have hl1 := hl.1
    rw [Int.toNat_natCast, i64_id (show -9223372036854775808 ≤ (i : Int) + 1 by omega) (by omega), show (i : Int) + 1 = ((i + 1 : Nat) : Int) by omega]
    generalize l.getD i (0, []) = o at *
    have hw : (wordOf a c s o).isSome = true ↔ ((pword o.1 o.2).1 = true ∧ tag a c s o.1 o.2 = (pword o.1 o.2).2.2.2.2.2.2) := by
      unfold wordOf; split
      · rename_i hh; simp [hh]
      · rename_i hh; simp [hh]
    have g : (0 : Int) ≤ (i : Int) ∧ (i : Int) < ((l.length : Nat) : Int) := by omega
    simp only [if_pos g]
    refine Ev.pos (by simp; omega) (Ev.bind (refPword_is o.1 o.2 h2 h3) ?_)
    rintro _ rfl
    refine Ev.ite (fun hp => Ev.bind (refTag_is a c s h l o.1 o.2 h1 h2 h3) ?_) (fun hp => ?_)
    · rintro _ rfl
      refine Ev.ite (fun ht => ?_) (fun ht => ?_)
      · rw [if_pos (hw.2 ⟨hp, by simp at ht; exact ht.symm⟩)] at ih
        exact Ev.guard (by simp [maxLen]; omega) ih
      · rw [if_neg (fun q => ht (by simp; exact (hw.1 q).2.symm))] at ih
        simpa using ih
    · rw [if_neg (fun q => hp (hw.1 q).1)] at ih
      simpa using ih
theorem refWords_is (a c : Int) (s : Seg) (h : s.ok) (l : List O) (hl : Opts l) : Ev (fun n => f61_broughamref10_Words n a c s.s0 s.s1 s.s2 s.s3 s.s4 l s.s6) (fun r => r = wopts a c s l) := by
  simp only [f61_broughamref10_Words]
  refine Ev.bind (refWordsLoop a c s h l hl l.length 0 (by omega)) ?_
  rintro _ rfl
  exact Ev.some rfl

/-- A word's option is what it was read of. -/
theorem go_cons {b : List Int} {x : Int} {l : List Int} {v : Int} {r : List Int} {q : List Int} (h : go b (x :: l) = some (v :: r, q)) : 1 ≤ x ∧ x ≤ 8 ∧ x ≤ b.length ∧ v = num (b.take x.toNat) ∧ go (b.drop x.toNat) l = some (r, q) := by
  simp only [go] at h
  split at h
  · rename_i hc
    obtain ⟨p, h1, h2⟩ := Option.map_eq_some_iff.1 h
    simp only [Prod.mk.injEq, List.cons.injEq] at h2
    obtain ⟨⟨h3, h4⟩, h5⟩ := h2
    obtain ⟨p1, p2⟩ := p
    dsimp only at h3 h4 h5
    subst h4; subst h5
    exact ⟨hc.1, hc.2.1, hc.2.2, h3.symm, h1⟩
  · cases h
theorem be_take {b : List Int} (hb : Bytes b) {s : Nat} (hs : s ≤ 8) (hl : s ≤ b.length) : be s (num (b.take s)) = b.take s := by
  have := be_num (b.take s) (hb.take _) (by simp; omega)
  rwa [show (b.take s).length = s by simp; omega] at this
theorem num_take {b : List Int} (hb : Bytes b) {s : Nat} (hs : s ≤ 8) (hl : s ≤ b.length) : 0 ≤ num (b.take s) ∧ num (b.take s) < 256 ^ s := by
  have := num_in (b.take s) (by simp; omega) (hb.take _)
  rwa [show (b.take s).length = s by simp; omega] at this
theorem word_back {k : Int} {b : List Int} (hb : Bytes b) (h : (pword k b).1 = true) : ∃ x1 x2 x3 x4 x5, pword k b = (true, k, x1, x2, x3, x4, x5) ∧ U32 x1 ∧ U8 x2 ∧ U8 x3 ∧ U64 x5 ∧ wordB x1 x2 x3 x4 x5 = b := by
  unfold pword at h
  split at h
  · rename_i hk
    split at h
    · rename_i x1 x2 x3 x4 x5 hg
      split at h
      · cases h
      · rename_i h4
        have hpw : pword k b = (true, k, IntKind.wrap .u32 x1, IntKind.wrap .u8 x2, IntKind.wrap .u8 x3, x4 == 1, x5) := by
          unfold pword; rw [if_pos hk, hg]; dsimp only; rw [if_neg h4]
        rw [hpw]
        clear hpw h
        obtain ⟨_, _, l1, v1, g1⟩ := go_cons hg
        obtain ⟨_, _, l2, v2, g2⟩ := go_cons g1
        obtain ⟨_, _, l3, v3, g3⟩ := go_cons g2
        obtain ⟨_, _, l4, v4, g4⟩ := go_cons g3
        obtain ⟨_, _, l5, v5, g5⟩ := go_cons g4
        clear hg g1 g2 g3 g4
        have hg := g5
        subst v1 v2 v3 v4 v5
        simp only [go, Option.some.injEq, Prod.mk.injEq, true_and] at hg
        simp only [List.length_drop] at l2 l3 l4 l5
        have n1 := num_take hb (s := 4) (by omega) (by omega)
        have n2 := num_take (hb.drop 4) (s := 1) (by omega) (by simp; omega)
        have n3 := num_take ((hb.drop 4).drop 1) (s := 1) (by omega) (by simp; omega)
        have n4 := num_take (((hb.drop 4).drop 1).drop 1) (s := 1) (by omega) (by simp; omega)
        have n5 := num_take ((((hb.drop 4).drop 1).drop 1).drop 1) (s := 8) (by omega) (by simp; omega)
        have c1 := be_take hb (s := 4) (by omega) (by omega)
        have c2 := be_take (hb.drop 4) (s := 1) (by omega) (by simp; omega)
        have c3 := be_take ((hb.drop 4).drop 1) (s := 1) (by omega) (by simp; omega)
        have c4 := be_take (((hb.drop 4).drop 1).drop 1) (s := 1) (by omega) (by simp; omega)
        have c5 := be_take ((((hb.drop 4).drop 1).drop 1).drop 1) (s := 8) (by omega) (by simp; omega)
        have p4 : (256 : Int) ^ 4 = 4294967296 := by decide
        have p1 : (256 : Int) ^ 1 = 256 := by decide
        have p8 : (256 : Int) ^ 8 = 18446744073709551616 := by decide
        rw [p4] at n1; rw [p1] at n2 n3 n4; rw [p8] at n5
        have t4 : Int.toNat 4 = 4 := rfl
        have t1 : Int.toNat 1 = 1 := rfl
        have t8 : Int.toNat 8 = 8 := rfl
        simp only [t4, t1, t8] at h4 hg ⊢
        refine ⟨_, _, _, _, _, rfl, ?_, ?_, ?_, n5, ?_⟩
        · rw [u32_id n1.1 n1.2]; exact n1
        · rw [u8_id n2.1 n2.2]; exact n2
        · rw [u8_id n3.1 n3.2]; exact n3
        · rw [u32_id n1.1 n1.2, u8_id n2.1 n2.2, u8_id n3.1 n3.2]
          unfold wordB
          have hbit : ∀ x : Int, 0 ≤ x → ¬ x > 1 → [bit (x == 1)] = be 1 x := by
            intro x h0 h1
            have : x = 0 ∨ x = 1 := by omega
            rcases this with rfl | rfl <;> rfl
          have hpair : ∀ x y : Int, U8 x → U8 y → [x, y] = be 1 x ++ be 1 y := by
            intro x y hx hy; rw [be1 hx, be1 hy]; rfl
          rw [hbit _ n4.1 h4, hpair _ _ n2 n3, c1, c2, c3, c4, c5]
          have hd := hg
          have e1 : b = b.take 4 ++ (b.drop 4).take 1 ++ ((b.drop 4).drop 1).take 1 ++ (((b.drop 4).drop 1).drop 1).take 1 ++ ((((b.drop 4).drop 1).drop 1).drop 1).take 8 ++ (((((b.drop 4).drop 1).drop 1).drop 1).drop 8) := by
            simp only [List.append_assoc, List.take_append_drop]
          rw [hd, List.append_nil] at e1
          simp only [List.append_assoc] at e1 ⊢
          exact e1.symm
    · cases h
  · cases h

theorem cmpLoop (a c : Int) (s : Seg) (l : List O) (hl : Opts l) (L : List WT) (M : List O) (hL : L.length = M.length) (hM : M.length ≤ 1000)
    (hLM : ∀ (i : Nat), i < M.length → U32 (L.getD i (0, 0, 0, 0, false, 0)).2.1 ∧ U8 (L.getD i (0, 0, 0, 0, false, 0)).2.2.1 ∧ U8 (L.getD i (0, 0, 0, 0, false, 0)).2.2.2.1 ∧ U64 (L.getD i (0, 0, 0, 0, false, 0)).2.2.2.2.2 ∧
      ((L.getD i (0, 0, 0, 0, false, 0)).1, wordB (L.getD i (0, 0, 0, 0, false, 0)).2.1 (L.getD i (0, 0, 0, 0, false, 0)).2.2.1 (L.getD i (0, 0, 0, 0, false, 0)).2.2.2.1 (L.getD i (0, 0, 0, 0, false, 0)).2.2.2.2.1 (L.getD i (0, 0, 0, 0, false, 0)).2.2.2.2.2) = M.getD i (0, [])) :
    ∀ (m i : Nat), i + m = M.length → Ev (fun n => f12_broughamlaw10_MacOpens_L11 n L M i) (fun r => r = .inr ())
  | 0, i, hi => by
    apply Ev.succ
    simp only [f12_broughamlaw10_MacOpens_L11]
    exact Ev.neg (by simp; omega) (Ev.some rfl)
  | m + 1, i, hi => by
    apply Ev.succ
    simp only [f12_broughamlaw10_MacOpens_L11]
    obtain ⟨q1, q2, q3, q4, q5⟩ := hLM i (by omega)
    rw [Int.toNat_natCast, i64_id (show -9223372036854775808 ≤ (i : Int) + 1 by omega) (by omega), show (i : Int) + 1 = ((i + 1 : Nat) : Int) by omega]
    refine Ev.pos (by simp; omega) (Ev.guard (by omega) (Ev.bind (word_is _ _ _ _ _ _ q1 q2 q3 q4) ?_))
    rintro _ rfl
    refine Ev.guard (by omega) ?_
    rw [← q5]
    simp only [f18_broughamref07_SameOption, beq_self_eq_true, if_true, Option.bind_some]
    exact Ev.neg (by decide) (cmpLoop a c s l hl L M hL hM hLM m (i + 1) (by omega))

theorem pairs (a c : Int) (s : Seg) : ∀ (l : List O), Opts l → (words a c s l).length = (wopts a c s l).length ∧ ∀ (i : Nat), i < (wopts a c s l).length → U32 ((words a c s l).getD i (0, 0, 0, 0, false, 0)).2.1 ∧ U8 ((words a c s l).getD i (0, 0, 0, 0, false, 0)).2.2.1 ∧ U8 ((words a c s l).getD i (0, 0, 0, 0, false, 0)).2.2.2.1 ∧ U64 ((words a c s l).getD i (0, 0, 0, 0, false, 0)).2.2.2.2.2 ∧
      (((words a c s l).getD i (0, 0, 0, 0, false, 0)).1, wordB ((words a c s l).getD i (0, 0, 0, 0, false, 0)).2.1 ((words a c s l).getD i (0, 0, 0, 0, false, 0)).2.2.1 ((words a c s l).getD i (0, 0, 0, 0, false, 0)).2.2.2.1 ((words a c s l).getD i (0, 0, 0, 0, false, 0)).2.2.2.2.1 ((words a c s l).getD i (0, 0, 0, 0, false, 0)).2.2.2.2.2) = (wopts a c s l).getD i (0, [])
  | [], _ => ⟨rfl, fun i hi => by simp [wopts] at hi⟩
  | o :: l, h => by
    obtain ⟨i1, i2⟩ := pairs a c s l ⟨by have := h.1; simp at this; omega, fun p hp => h.2 p (List.mem_cons_of_mem _ hp)⟩
    obtain ⟨h1, h2, h3⟩ := h.2 o List.mem_cons_self
    cases hw : wordOf a c s o with
    | none =>
      have e1 : words a c s (o :: l) = words a c s l := by simp [words, List.filterMap_cons, hw]
      have e2 : wopts a c s (o :: l) = wopts a c s l := by simp [wopts, List.filter_cons, hw]
      rw [e1, e2]; exact ⟨i1, i2⟩
    | some w =>
      have e1 : words a c s (o :: l) = w :: words a c s l := by simp [words, List.filterMap_cons, hw]
      have e2 : wopts a c s (o :: l) = o :: wopts a c s l := by simp [wopts, List.filter_cons, hw]
      rw [e1, e2]
      refine ⟨by simp [i1], fun i hi => ?_⟩
      cases i with
      | succ i => simpa using i2 i (by simpa using hi)
      | zero =>
        unfold wordOf at hw
        split at hw
        · rename_i hc
          obtain ⟨x1, x2, x3, x4, x5, q0, q1, q2, q3, q4, q5⟩ := word_back h2 hc.1
          rw [q0] at hw
          cases hw
          simp only [List.getD_cons_zero]
          exact ⟨q1, q2, q3, q4, by rw [q5]⟩
        · cases hw

theorem MacOpens (k : Int × Int) (h0 : K.ok (.pair (.int .u64) (.int .u64)) k) (s : Int × Int × Int × Int × Int × List (Int × List Int) × List Int) (h1 : K.ok (.pair (.int .u16) (.pair (.int .u16) (.pair (.int .u32) (.pair (.int .u32) (.pair (.int .u8) (.pair (.slice (.pair (.int .u8) (.slice (.int .u8)))) (.slice (.int .u8)))))))) s) :
    ∃ n, f12_broughamlaw10_MacOpens n k.1 k.2 s.1 s.2.1 s.2.2.1 s.2.2.2.1 s.2.2.2.2.1 s.2.2.2.2.2.1 s.2.2.2.2.2.2 = some true := by
  obtain ⟨a, c⟩ := k
  obtain ⟨s0, s1, s2, s3, s4, s5, s6⟩ := s
  obtain ⟨a0, a1, a2, a3, a4, a5, a6⟩ := h1
  apply Ev.true
  simp only [f12_broughamlaw10_MacOpens]
  refine Ev.bind (great_is _ _ _ _ _ _ _) ?_
  rintro _ (rfl | ⟨rfl, g1, g2, g3⟩)
  · exact Ev.pos rfl (Ev.some rfl)
  have hs : (Seg.mk s0 s1 s2 s3 s4 s6).ok := ⟨ok_u16 a0, ok_u16 a1, ok_u32 a2, ok_u32 a3, ok_u8 a4, ok_bytes a6, g2⟩
  have ho : Opts s5 := ⟨by omega, fun o ho => ⟨ok_u8 (a5.2 o ho).1, ok_bytes (a5.2 o ho).2, g3 o ho⟩⟩
  refine Ev.neg (by decide) (Ev.bind (open_is a c _ hs s5 ho) ?_)
  rintro _ rfl
  refine Ev.bind (refOpen_is a c _ hs s5 ho) ?_
  rintro _ rfl
  refine Ev.bind (words_is a c _ hs s5 ho) ?_
  rintro _ rfl
  refine Ev.bind (refWords_is a c _ hs s5 ho) ?_
  rintro _ rfl
  obtain ⟨p1, p2⟩ := pairs a c (Seg.mk s0 s1 s2 s3 s4 s6) s5 ho
  have hwl := wopts_len a c (Seg.mk s0 s1 s2 s3 s4 s6) s5
  refine Ev.neg (by simp) (Ev.neg (by simp) (Ev.neg (by simp [p1]) (Ev.bind (cmpLoop a c (Seg.mk s0 s1 s2 s3 s4 s6) s5 ho _ _ p1 (by omega) p2 (wopts a c (Seg.mk s0 s1 s2 s3 s4 s6) s5).length 0 (by omega)) ?_)))
  rintro _ rfl
  exact Ev.bind alive_is (fun r hr => Ev.some hr)
end Go.Proofs.YtddglebabaaghaaF10
