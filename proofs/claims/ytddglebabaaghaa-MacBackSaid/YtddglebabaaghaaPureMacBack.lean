/- MacBack: what was sealed is opened as it was, with other options beside it: of the functions that text F10 prints. Conditions: none. -/
import Derived.Test.YtddglebabaaghaaPureMacOpens
import Derived.Test.YtddglebabaaghaaPureMacSeals
namespace Go.Proofs.YtddglebabaaghaaF10
open Go Zed
set_option linter.unusedVariables false
set_option linter.unusedSimpArgs false

theorem go_be (s : Nat) (v : Int) (r : List Int) (l : List Int) (hs : 1 ≤ s ∧ s ≤ 8) (hv : 0 ≤ v ∧ v < 256 ^ s) : go (be s v ++ r) ((s : Int) :: l) = (go r l).map fun p => (v :: p.1, p.2) := by
  have hl := be_len s v
  rw [go, if_pos (by simp [hl]; omega), Int.toNat_natCast]
  have e1 : (be s v ++ r).take s = be s v := by rw [List.take_append_of_le_length (by omega), List.take_of_length_le (by omega)]
  have e2 : (be s v ++ r).drop s = r := by
    have := List.drop_left (l₁ := be s v) (l₂ := r)
    rwa [hl] at this
  rw [e1, e2, num_be s v hs.2 hv]
theorem p1 : (256 : Int) ^ 1 = 256 := by decide
theorem p4 : (256 : Int) ^ 4 = 4294967296 := by decide
theorem p8 : (256 : Int) ^ 8 = 18446744073709551616 := by decide
theorem data_go (a b : Bool) (c d e f : Int) (hc : U64 c) (hd : U64 d) (he : U32 e) (hf : U64 f) : go (dataB a b c d e f) [1, 8, 8, 4, 8] = some ([bit a + 2 * bit b, c, d, e, f], []) := by
  have h1 := dbit_in a b
  unfold dataB
  rw [← be1 h1]
  simp only [List.append_assoc]
  have g1 := go_be 1 (bit a + 2 * bit b) (be 8 c ++ (be 8 d ++ (be 4 e ++ be 8 f))) [8, 8, 4, 8] (by omega) (by rw [p1]; exact h1)
  have g2 := go_be 8 c (be 8 d ++ (be 4 e ++ be 8 f)) [8, 4, 8] (by omega) (by rw [p8]; exact hc)
  have g3 := go_be 8 d (be 4 e ++ be 8 f) [4, 8] (by omega) (by rw [p8]; exact hd)
  have g4 := go_be 4 e (be 8 f) [8] (by omega) (by rw [p4]; exact he)
  have g5 := go_be 8 f [] [] (by omega) (by rw [p8]; exact hf)
  rw [List.append_nil] at g5
  have c1 : ((1 : Nat) : Int) = 1 := rfl
  have c8 : ((8 : Nat) : Int) = 8 := rfl
  have c4 : ((4 : Nat) : Int) = 4 := rfl
  rw [show ((8 : Nat) : Int) = 8 from rfl] at g2 g3 g5
  rw [show ((4 : Nat) : Int) = 4 from rfl] at g4
  rw [show ((1 : Nat) : Int) = 1 from rfl] at g1
  rw [g1, g2, g3, g4, g5]
  rfl
theorem pdata_back (a b : Bool) (c d e f : Int) (hc : U64 c) (hd : U64 d) (he : U32 e) (hf : U64 f) : pdata 3 (dataB a b c d e f) = (true, a, b, c, d, e, f) := by
  unfold pdata
  rw [if_pos rfl, data_go a b c d e f hc hd he hf]
  dsimp only
  have h1 := dbit_in a b
  rw [u32_id he.1 he.2]
  cases a <;> cases b <;> rfl
theorem word_go (a b c : Int) (d : Bool) (e : Int) (ha : U32 a) (hb : U8 b) (hc : U8 c) (he : U64 e) : go (wordB a b c d e) [4, 1, 1, 1, 8] = some ([a, b, c, bit d, e], []) := by
  have hw : wordB a b c d e = be 4 a ++ (be 1 b ++ (be 1 c ++ (be 1 (bit d) ++ be 8 e))) := by
    unfold wordB; rw [be1 hb, be1 hc, be1 (bit_in d)]; simp
  rw [hw]
  have g1 := go_be 4 a (be 1 b ++ (be 1 c ++ (be 1 (bit d) ++ be 8 e))) [1, 1, 1, 8] (by omega) (by rw [p4]; exact ha)
  have g2 := go_be 1 b (be 1 c ++ (be 1 (bit d) ++ be 8 e)) [1, 1, 8] (by omega) (by rw [p1]; exact hb)
  have g3 := go_be 1 c (be 1 (bit d) ++ be 8 e) [1, 8] (by omega) (by rw [p1]; exact hc)
  have g4 := go_be 1 (bit d) (be 8 e) [8] (by omega) (by rw [p1]; exact bit_in d)
  have g5 := go_be 8 e [] [] (by omega) (by rw [p8]; exact he)
  rw [List.append_nil] at g5
  have c1 : ((1 : Nat) : Int) = 1 := rfl
  have c8 : ((8 : Nat) : Int) = 8 := rfl
  have c4 : ((4 : Nat) : Int) = 4 := rfl
  rw [c4] at g1; rw [c1] at g2 g3 g4; rw [c8] at g5
  rw [g1, g2, g3, g4, g5]
  rfl
theorem pword_back (k a b c : Int) (d : Bool) (e : Int) (hk : 4 ≤ k ∧ k ≤ 7) (ha : U32 a) (hb : U8 b) (hc : U8 c) (he : U64 e) : pword k (wordB a b c d e) = (true, k, a, b, c, d, e) := by
  unfold pword
  rw [if_pos hk, word_go a b c d e ha hb hc he]
  dsimp only
  rw [u32_id ha.1 ha.2, u8_id hb.1 hb.2, u8_id hc.1 hc.2]
  cases d <;> rfl

def keepB (o : O) : Bool := o.1 == 1 || (o.1 == 2 || decide (o.1 > 7))
def kept (l : List O) : List O := l.filter keepB
theorem take_kept (l : List O) {i : Nat} (h : i < l.length) : kept (l.take (i + 1)) = kept (l.take i) ++ (if keepB (l.getD i (0, [])) then [l.getD i (0, [])] else []) := by
  rw [take_snoc l h]; unfold kept; rw [List.filter_append]
  generalize l.getD i (0, []) = o
  cases h2 : keepB o <;> simp [List.filter, h2]
theorem keepLoop (a c : Int) (s : Seg) (l : List O) (hl1 : l.length ≤ 1000) (x0 : Int) (x1 : Bool) (x2 x3 x4 x5 : Int) (x6 x7 : Bool) (x8 : Int) (x9 x10 : Bool) (x11 x12 x13 x14 x15 x16 x17 x18 : Int) (x19 : Bool) (x20 : Int) : ∀ (m i : Nat), i + m = l.length →
    Ev (fun n => f13_broughamlaw10_MacBack_L5 n (kept (l.take i)) i a c s.s0 s.s1 s.s2 s.s3 s.s4 l s.s6 x0 x1 x2 x3 x4 x5 x6 x7 x8 x9 x10 x11 x12 x13 x14 x15 x16 x17 x18 x19 x20) (fun r => r = (kept l, a, c, s.s0, s.s1, s.s2, s.s3, s.s4, l, s.s6, x0, x1, x2, x3, x4, x5, x6, x7, x8, x9, x10, x11, x12, x13, x14, x15, x16, x17, x18, x19, x20))
  | 0, i, hi => by
    apply Ev.succ
    simp only [f13_broughamlaw10_MacBack_L5]
    exact Ev.neg (by simp; omega) (Ev.some (by rw [List.take_of_length_le (by omega)]))
  | m + 1, i, hi => by
    apply Ev.succ
    simp only [f13_broughamlaw10_MacBack_L5]
    have hil : i < l.length := by omega
    have ih := keepLoop a c s l hl1 x0 x1 x2 x3 x4 x5 x6 x7 x8 x9 x10 x11 x12 x13 x14 x15 x16 x17 x18 x19 x20 m (i + 1) (by omega)
    rw [take_kept l hil] at ih
    have hle : (kept (l.take i)).length ≤ i := by have := List.length_filter_le keepB (l.take i); simp at this; unfold kept; omega
    have g : (0 : Int) ≤ (i : Int) ∧ (i : Int) < ((l.length : Nat) : Int) := by omega
    simp only [if_pos g]
    rw [Int.toNat_natCast, i64_id (show -9223372036854775808 ≤ (i : Int) + 1 by omega) (by omega), show (i : Int) + 1 = ((i + 1 : Nat) : Int) by omega]
    generalize l.getD i (0, []) = o at *
    refine Ev.pos (by simp; omega) (Ev.ite (fun q1 => ?_) (fun q1 => Ev.ite (fun q2 => ?_) (fun q2 => Ev.ite (fun q3 => ?_) (fun q3 => ?_))))
    · rw [if_pos (by simp [keepB, q1])] at ih
      exact Ev.guard (by simp [maxLen]; omega) ih
    · rw [if_pos (by simp [keepB, q2])] at ih
      exact Ev.guard (by simp [maxLen]; omega) ih
    · rw [if_pos (by simp [keepB, q3])] at ih
      exact Ev.guard (by simp [maxLen]; omega) ih
    · rw [if_neg (by simp [keepB, q1, q2, q3])] at ih
      simpa using ih

theorem MacBack (k : Int × Int) (h0 : K.ok (.pair (.int .u64) (.int .u64)) k) (s : Int × Int × Int × Int × Int × List (Int × List Int) × List Int) (h1 : K.ok (.pair (.int .u16) (.pair (.int .u16) (.pair (.int .u32) (.pair (.int .u32) (.pair (.int .u8) (.pair (.slice (.pair (.int .u8) (.slice (.int .u8)))) (.slice (.int .u8)))))))) s)
    (x : (Int × Bool × Int) × (Int × Int × Int × Bool × Bool × Int) × (Bool × Bool × Int × Int × Int × Int) × (Int × Int × Int × Int × Bool × Int))
    (h : K.ok (.pair (.pair (.int .u64) (.pair .bool (.int .u64))) (.pair (.pair (.int .u32) (.pair (.int .u32) (.pair (.int .u8) (.pair .bool (.pair .bool (.int .u64)))))) (.pair (.pair .bool (.pair .bool (.pair (.int .u64) (.pair (.int .u64) (.pair (.int .u32) (.int .u64)))))) (.pair (.int .u8) (.pair (.int .u32) (.pair (.int .u8) (.pair (.int .u8) (.pair .bool (.int .u64))))))))) x) :
    ∃ n, f13_broughamlaw10_MacBack n k.1 k.2 s.1 s.2.1 s.2.2.1 s.2.2.2.1 s.2.2.2.2.1 s.2.2.2.2.2.1 s.2.2.2.2.2.2 x.1.1 x.1.2.1 x.1.2.2 x.2.1.1 x.2.1.2.1 x.2.1.2.2.1 x.2.1.2.2.2.1 x.2.1.2.2.2.2.1 x.2.1.2.2.2.2.2 x.2.2.1.1 x.2.2.1.2.1 x.2.2.1.2.2.1 x.2.2.1.2.2.2.1 x.2.2.1.2.2.2.2.1 x.2.2.1.2.2.2.2.2 x.2.2.2.1 x.2.2.2.2.1 x.2.2.2.2.2.1 x.2.2.2.2.2.2.1 x.2.2.2.2.2.2.2.1 x.2.2.2.2.2.2.2.2 = some true := by
  obtain ⟨a, c⟩ := k
  obtain ⟨s0, s1, s2, s3, s4, s5, s6⟩ := s
  obtain ⟨⟨x0, x1, x2⟩, ⟨x3, x4, x5, x6, x7, x8⟩, ⟨x9, x10, x11, x12, x13, x14⟩, ⟨x15, x16, x17, x18, x19, x20⟩⟩ := x
  obtain ⟨a0, a1, a2, a3, a4, a5, a6⟩ := h1
  obtain ⟨_, _, ⟨_, _, d3, d4, d5, d6⟩, ⟨w1, w2, w3, w4, _, w6⟩⟩ := h
  have d3 : U64 x11 := ok_u64 d3; have d4 : U64 x12 := ok_u64 d4; have d5 : U32 x13 := ok_u32 d5; have d6 : U64 x14 := ok_u64 d6
  have w1 : U8 x15 := ok_u8 w1; have w2 : U32 x16 := ok_u32 w2; have w3 : U8 x17 := ok_u8 w3; have w4 : U8 x18 := ok_u8 w4; have w6 : U64 x20 := ok_u64 w6
  apply Ev.true
  simp only [f13_broughamlaw10_MacBack]
  refine Ev.bind (great_is _ _ _ _ _ _ _) ?_
  rintro _ (rfl | ⟨rfl, g1, g2, g3⟩)
  · exact Ev.pos rfl (Ev.some rfl)
  refine Ev.neg (by decide) (Ev.ite (fun _ => Ev.some rfl) fun q1 => Ev.ite (fun _ => Ev.some rfl) fun q2 => Ev.ite (fun _ => Ev.some rfl) fun q3 => ?_)
  simp only [gt_iff_lt, decide_eq_true_eq] at q1 q2 q3
  have hs : (Seg.mk s0 s1 s2 s3 s4 s6).ok := ⟨ok_u16 a0, ok_u16 a1, ok_u32 a2, ok_u32 a3, ok_u8 a4, ok_bytes a6, g2⟩
  have ho : Opts s5 := ⟨by omega, fun o ho => ⟨ok_u8 (a5.2 o ho).1, ok_bytes (a5.2 o ho).2, g3 o ho⟩⟩
  refine Ev.bind (keepLoop a c (Seg.mk s0 s1 s2 s3 s4 s6) s5 (by omega) x0 x1 x2 x3 x4 x5 x6 x7 x8 x9 x10 x11 x12 x13 x14 x15 x16 x17 x18 x19 x20 s5.length 0 (by omega)) ?_
  rintro _ rfl
  dsimp only
  generalize hS : Seg.mk s0 s1 s2 s3 s4 s6 = S at hs
  have e0 : s0 = S.s0 := by rw [← hS]
  have e1 : s1 = S.s1 := by rw [← hS]
  have e2 : s2 = S.s2 := by rw [← hS]
  have e3 : s3 = S.s3 := by rw [← hS]
  have e4 : s4 = S.s4 := by rw [← hS]
  have e6 : s6 = S.s6 := by rw [← hS]
  rw [e0, e1, e2, e3, e4, e6]
  generalize hwt : tag a c S x15 (be 4 x16 ++ [x17, x18] ++ [bit x19] ++ be 8 0) = wt
  generalize hdt : tag a c S 3 (dataB x9 x10 x11 x12 x13 x14) = dt
  have hwti : U64 wt := by rw [← hwt]; exact tag_in a c S x15 _
  have hdti : U64 dt := by rw [← hdt]; exact tag_in a c S 3 _
  have hword := seal_word a c S hs s5 x15 x16 x17 x18 x19 x20 w1 w2 w3 w4 w6
  have hdata := seal_data a c S hs s5 x9 x10 x11 x12 x13 x14 d3 d4 d5 d6
  rw [hwt] at hword
  rw [hdt] at hdata
  refine Ev.bind hword ?_
  rintro _ rfl
  refine Ev.bind hdata ?_
  rintro _ rfl
  refine Ev.bind hword ?_
  rintro _ rfl
  have hkl : (kept s5).length ≤ 60 := by have := List.length_filter_le keepB s5; unfold kept; omega
  generalize hM : kept s5 ++ [(x15, be 4 x16 ++ [x17, x18] ++ [bit x19] ++ be 8 wt), (3, dataB x9 x10 x11 x12 x13 dt), (x15, be 4 x16 ++ [x17, x18] ++ [bit x19] ++ be 8 wt)] = M
  have hMl : M.length ≤ 1000 := by rw [← hM]; simp; omega
  have hwB : be 4 x16 ++ [x17, x18] ++ [bit x19] ++ be 8 wt = wordB x16 x17 x18 x19 wt := rfl
  have hwb : Bytes (wordB x16 x17 x18 x19 wt) := (((be_bytes 4 _).append (Bytes.cons w3 (Bytes.cons w4 Bytes.nil))).append (Bytes.cons (bit_in x19) Bytes.nil)).append (be_bytes 8 _)
  have hMo : Opts M := ⟨hMl, fun o hm => by
    rw [← hM] at hm
    rcases List.mem_append.1 hm with h2 | h2
    · exact ho.2 o (List.mem_filter.1 h2).1
    · simp only [List.mem_cons, List.not_mem_nil, or_false] at h2
      rcases h2 with rfl | rfl | rfl
      · exact ⟨w1, hwb, by simp [be_len]⟩
      · exact ⟨(show U8 (3:Int) from by constructor <;> decide), dataB_bytes _ _ _ _ _ _, by simp [dataB, be_len]⟩
      · exact ⟨w1, hwb, by simp [be_len]⟩⟩
  have hflt : flt 3 M = [(3, dataB x9 x10 x11 x12 x13 dt)] := by
    have hk : flt 3 (kept s5) = [] := by
      unfold flt kept
      rw [List.filter_filter, List.filter_eq_nil_iff]
      intro o _
      simp only [keepB, Bool.and_eq_true, Bool.or_eq_true, beq_iff_eq, decide_eq_true_eq]
      omega
    have hx : ((x15 == 3) : Bool) = false := by simp; omega
    rw [← hM]
    unfold flt at hk ⊢
    rw [List.filter_append, hk]
    simp [List.filter, hx]
  have hone : one 3 M = (true, 3, dataB x9 x10 x11 x12 x13 dt) := by unfold one; rw [hflt]
  have htag : tag a c S 3 (dataB x9 x10 x11 x12 x13 dt) = dt := by
    rw [← hdt]
    exact tag_tail a c S 3 ([bit x9 + 2 * bit x10] ++ be 8 x11 ++ be 8 x12 ++ be 4 x13) _ x14
  have hopen : open_ a c S M = (true, x9, x10, x11, x12, x13, dt) := by
    unfold open_
    rw [hone]
    dsimp only
    rw [pdata_back x9 x10 x11 x12 x13 dt d3 d4 d5 hdti]
    dsimp only
    rw [if_pos htag]
  have hwtag : tag a c S x15 (wordB x16 x17 x18 x19 wt) = wt := by
    rw [← hwt]
    exact tag_tail a c S x15 (be 4 x16 ++ [x17, x18] ++ [bit x19]) _ 0
  have hw1 : wordOf a c S (x15, wordB x16 x17 x18 x19 wt) = some (x15, x16, x17, x18, x19, wt) := by
    unfold wordOf
    dsimp only
    rw [pword_back x15 x16 x17 x18 x19 wt (by omega) w2 w3 w4 hwti]
    rw [if_pos ⟨rfl, hwtag⟩]
  have hnone : ∀ o : O, ¬ (4 ≤ o.1 ∧ o.1 ≤ 7) → wordOf a c S o = none := by
    intro o hk
    unfold wordOf pword
    rw [if_neg hk]
    rfl
  have hwords : words a c S M = [(x15, x16, x17, x18, x19, wt), (x15, x16, x17, x18, x19, wt)] := by
    have hk : words a c S (kept s5) = [] := by
      unfold words kept
      rw [List.filterMap_eq_nil_iff]
      intro o hm
      have := (List.mem_filter.1 hm).2
      simp only [keepB, Bool.or_eq_true, beq_iff_eq, decide_eq_true_eq] at this
      exact hnone o (by omega)
    rw [← hM, hwB]
    unfold words at hk ⊢
    rw [List.filterMap_append, hk]
    simp [List.filterMap, hw1, hnone (3, dataB x9 x10 x11 x12 x13 dt) (by intro h; exact absurd h.1 (by show ¬ ((4:Int) ≤ 3); decide))]
  refine Ev.guard (by simp [maxLen]; omega) ?_
  refine Ev.bind (P := fun r => r = (S.s0, S.s1, S.s2, S.s3, S.s4, M, S.s6)) (Ev.of (by exact segOf_is S s5 M hMl) rfl) ?_
  rintro _ rfl
  refine Ev.bind (open_is a c S hs M hMo) ?_
  rintro _ rfl
  refine Ev.bind (words_is a c S hs M hMo) ?_
  rintro _ rfl
  rw [hopen, hwords]
  have hg : ∀ i : Nat, i = 0 ∨ i = 1 → [(x15, x16, x17, x18, x19, wt), (x15, x16, x17, x18, x19, wt)].getD i (0, 0, 0, 0, false, 0) = (x15, x16, x17, x18, x19, wt) := by rintro i (rfl | rfl) <;> rfl
  have gA : (0 : Int) ≤ 0 ∧ (0 : Int) < (([(x15, x16, x17, x18, x19, wt), (x15, x16, x17, x18, x19, wt)].length : Nat) : Int) := ⟨Int.le_refl _, by show (0 : Int) < 2; decide⟩
  have gB : (0 : Int) ≤ 1 ∧ (1 : Int) < (([(x15, x16, x17, x18, x19, wt), (x15, x16, x17, x18, x19, wt)].length : Nat) : Int) := ⟨by decide, by show (1 : Int) < 2; decide⟩
  have z0 : Int.toNat 0 = 0 := rfl
  have z1 : Int.toNat 1 = 1 := rfl
  refine Ev.neg (by intro h; cases h) (Ev.neg (by simp) (Ev.neg (by show ¬ ((((2 : Nat) : Int) != 2) = true); decide) (Ev.guard gA (Ev.guard gA (Ev.pos ?_ (Ev.guard gB (Ev.guard gB (Ev.pos ?_ (Ev.bind alive_is (fun r hr => Ev.some hr))))))))))
  · simp only [z0, z1, hg 0 (.inl rfl), hg 1 (.inr rfl), beq_self_eq_true, Bool.and_self, Bool.true_and]
  · simp only [z0, z1, hg 0 (.inl rfl), hg 1 (.inr rfl), beq_self_eq_true, Bool.and_self, Bool.true_and]
end Go.Proofs.YtddglebabaaghaaF10
