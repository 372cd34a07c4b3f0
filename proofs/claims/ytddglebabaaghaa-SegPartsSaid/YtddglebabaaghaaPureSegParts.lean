/- SegParts: a segment's numbers, its first option of a kind, another one with other options, a copy that stays: of the functions that text F07b prints. Conditions: none. -/
import Derived.Test.YtddglebabaaghaaF07b
import Derived.Test.YtddglebabaaghaaZedPb
namespace Go.Proofs.YtddglebabaaghaaF07b
open Go Zed
set_option linter.unusedVariables false
set_option linter.unusedSimpArgs false

theorem alive_at (m : Nat) : f46_broughamlaw07_alive (m + 60) = some true := by kernel_rfl
theorem alive_ev : Ev (fun n => f46_broughamlaw07_alive n) (fun r => r = true) := Ev.at 60 alive_at rfl
abbrev O := Int × List Int
theorem great_loop (s0 s1 s2 s3 s4 : Int) (l : List O) (s6 : List Int) (hl : l.length ≤ 120) : ∀ (d : Nat) (i : Int) (hi : 0 ≤ i ∧ i + d = l.length) (hh : ∀ o ∈ l.take i.toNat, o.2.length ≤ 400), Ev (fun n => f15_broughamlaw07_Great_L4 n i s0 s1 s2 s3 s4 l s6) (fun r => r = .inl true ∨ (r = .inr () ∧ ∀ o ∈ l, o.2.length ≤ 400))
  | 0, i, hi, hh => by
    apply Ev.succ
    unfold f15_broughamlaw07_Great_L4
    rw [List.take_of_length_le (by omega)] at hh
    exact Ev.neg (by simp only [decide_eq_true_eq]; omega) (Ev.some (.inr ⟨rfl, hh⟩))
  | d + 1, i, hi, hh => by
    apply Ev.succ
    unfold f15_broughamlaw07_Great_L4
    refine Ev.pos (by simp only [decide_eq_true_eq]; omega) (Ev.guard (by omega) (Ev.ite (fun _ => Ev.some (.inl rfl)) (fun h2 => ?_)))
    simp only [gt_iff_lt, decide_eq_true_eq] at h2
    rw [i64_id (by omega) (by omega)]
    refine great_loop s0 s1 s2 s3 s4 l s6 hl d (i + 1) (by omega) ?_
    have e : l.take (i + 1).toNat = l.take i.toNat ++ [l.getD i.toNat (0, [])] := by
      have hlt : i.toNat < l.length := by omega
      rw [show (i + 1).toNat = i.toNat + 1 by omega, List.take_add_one]
      simp [List.getElem?_eq_getElem hlt, List.getD_eq_getElem?_getD]
    rw [e]
    intro o ho
    rcases List.mem_append.1 ho with h3 | h3
    · exact hh o h3
    · simp only [List.mem_singleton] at h3; subst h3; omega
theorem great_is (s0 s1 s2 s3 s4 : Int) (l : List O) (s6 : List Int) : Ev (fun n => f15_broughamlaw07_Great n s0 s1 s2 s3 s4 l s6) (fun r => r = true ∨ (r = false ∧ l.length ≤ 120 ∧ s6.length ≤ 2000 ∧ ∀ o ∈ l, o.2.length ≤ 400)) := by
  simp only [f15_broughamlaw07_Great]
  refine Ev.ite (fun _ => Ev.some (.inl rfl)) (fun h1 => Ev.ite (fun _ => Ev.some (.inl rfl)) (fun h2 => ?_))
  simp only [gt_iff_lt, decide_eq_true_eq] at h1 h2
  refine Ev.bind (great_loop s0 s1 s2 s3 s4 l s6 (by omega) l.length 0 (by omega) (by simp)) ?_
  rintro _ (rfl | ⟨rfl, h⟩)
  · exact Ev.some (.inl rfl)
  · exact Ev.some (.inr ⟨rfl, by omega, by omega, h⟩)
/-- The first of a kind. -/
def fst (k : Int) : List O → Bool × Int × List Int
  | [] => (false, 0, [])
  | o :: l => if o.1 = k then (true, o.1, o.2) else fst k l
theorem first_loop (k : Int) (l : List O) (hl : l.length ≤ 1000) : ∀ (d : Nat) (i : Int) (hi : 0 ≤ i ∧ i + d = l.length),
    Ev (fun n => f50_seg_First_L2 n k l ((l.length : Nat) : Int) i 0) (fun w => (match w with | .inl e => (e.1, e.2.1, e.2.2) | .inr _ => (false, 0, [])) = fst k (l.drop i.toNat))
  | 0, i, hi => by
    apply Ev.succ
    unfold f50_seg_First_L2
    refine Ev.neg (by simp only [decide_eq_true_eq]; omega) (Ev.some ?_)
    rw [List.drop_eq_nil_of_le (by omega)]; rfl
  | d + 1, i, hi => by
    apply Ev.succ
    unfold f50_seg_First_L2
    have e1 : l.drop i.toNat = l.getD i.toNat (0, []) :: l.drop (i.toNat + 1) := drop_cons (by omega) _
    refine Ev.pos (by simp only [decide_eq_true_eq]; omega) (Ev.guard (by omega) (Ev.ite (fun c => Ev.some ?_) (fun c => ?_)))
    · simp only [beq_iff_eq] at c; rw [e1, fst, if_pos c]
    · simp only [beq_iff_eq] at c
      rw [i64_id (by omega) (by omega)]
      refine (first_loop k l hl d (i + 1) (by omega)).mono fun w hw => ?_
      rw [e1, fst, if_neg c, ← show (i + 1).toNat = i.toNat + 1 by omega]; exact hw
theorem first_is (s0 s1 s2 s3 s4 : Int) (l : List O) (s6 : List Int) (k : Int) (hl : l.length ≤ 1000) : Ev (fun n => f50_seg_First n s0 s1 s2 s3 s4 l s6 k) (fun r => r = fst k l) := by
  unfold f50_seg_First
  refine Ev.bind (first_loop k l hl l.length 0 (by omega)) ?_
  intro w hw
  cases w with
  | inl e => exact Ev.some hw
  | inr e => exact Ev.some hw
theorem refFirst_loop (k : Int) (s0 s1 s2 s3 s4 : Int) (l : List O) (s6 : List Int) (hl : l.length ≤ 1000) : ∀ (d : Nat) (i : Int) (hi : 0 ≤ i ∧ i + d = l.length),
    Ev (fun n => f51_broughamref07_First_L2 n k i s0 s1 s2 s3 s4 l s6 0) (fun w => (match w with | .inl e => (e.1, e.2.1, e.2.2) | .inr _ => (false, 0, [])) = fst k (l.drop i.toNat))
  | 0, i, hi => by
    apply Ev.succ
    unfold f51_broughamref07_First_L2
    refine Ev.neg (by simp only [decide_eq_true_eq]; omega) (Ev.some ?_)
    rw [List.drop_eq_nil_of_le (by omega)]; rfl
  | d + 1, i, hi => by
    apply Ev.succ
    unfold f51_broughamref07_First_L2
    have e1 : l.drop i.toNat = l.getD i.toNat (0, []) :: l.drop (i.toNat + 1) := drop_cons (by omega) _
    refine Ev.pos (by simp only [decide_eq_true_eq]; omega) (Ev.guard (by omega) (Ev.ite (fun c => Ev.guard (by omega) (Ev.some ?_)) (fun c => ?_)))
    · simp only [beq_iff_eq] at c; rw [e1, fst, if_pos c]
    · simp only [beq_iff_eq] at c
      rw [i64_id (by omega) (by omega)]
      refine (refFirst_loop k s0 s1 s2 s3 s4 l s6 hl d (i + 1) (by omega)).mono fun w hw => ?_
      rw [e1, fst, if_neg c, ← show (i + 1).toNat = i.toNat + 1 by omega]; exact hw
theorem refFirst_is (s0 s1 s2 s3 s4 : Int) (l : List O) (s6 : List Int) (k : Int) (hl : l.length ≤ 1000) : Ev (fun n => f51_broughamref07_First n s0 s1 s2 s3 s4 l s6 k) (fun r => r = fst k l) := by
  unfold f51_broughamref07_First
  refine Ev.bind (refFirst_loop k s0 s1 s2 s3 s4 l s6 hl l.length 0 (by omega)) ?_
  intro w hw
  cases w with
  | inl e => exact Ev.some hw
  | inr e => exact Ev.some hw
theorem copy_loop (l : List O) (hl : l.length ≤ 1000) (ho : ∀ o ∈ l, o.2.length ≤ 400) (s0 s1 s2 s3 s4 : Int) (s5 : List O) (s6 : List Int) : ∀ (d : Nat) (i : Int) (out : List O) (hi : 0 ≤ i ∧ i + d = l.length) (hout : out.length ≤ i.toNat),
    Ev (fun n => f52_seg_Copy_L3 n out l ((l.length : Nat) : Int) i s0 s1 s2 s3 s4 s5 s6 0 0 0 0 0) (fun w => w = (out ++ l.drop i.toNat, s0, s1, s2, s3, s4, s5, s6, 0, 0, 0, 0, 0))
  | 0, i, out, hi, hout => by
    apply Ev.succ
    unfold f52_seg_Copy_L3
    refine Ev.neg (by simp only [decide_eq_true_eq]; omega) (Ev.some ?_)
    rw [List.drop_eq_nil_of_le (by omega)]; simp
  | d + 1, i, out, hi, hout => by
    apply Ev.succ
    unfold f52_seg_Copy_L3
    have e1 : l.drop i.toNat = l.getD i.toNat (0, []) :: l.drop (i.toNat + 1) := drop_cons (by omega) _
    have h4 := ho _ (getD_mem (show i.toNat < l.length by omega) (0, []))
    refine Ev.pos (by simp only [decide_eq_true_eq]; omega) (Ev.guard (by omega) (Ev.guard (by simp only [maxLen]; omega) (Ev.guard (by simp only [List.length_singleton, maxLen]; omega) ?_)))
    rw [i64_id (by omega) (by omega)]
    refine (copy_loop l hl ho s0 s1 s2 s3 s4 s5 s6 d (i + 1) _ (by omega) (by simp only [List.length_append, List.length_singleton]; omega)).mono ?_
    rintro _ rfl
    rw [e1, show (i + 1).toNat = i.toNat + 1 by omega]; simp
theorem copy_is (l : List O) (hl : l.length ≤ 1000) (ho : ∀ o ∈ l, o.2.length ≤ 400) (s0 s1 s2 s3 s4 : Int) (s6 : List Int) (h6 : s6.length ≤ 2000) : Ev (fun n => f52_seg_Copy n s0 s1 s2 s3 s4 l s6) (fun r => r = (s0, s1, s2, s3, s4, l, s6)) := by
  unfold f52_seg_Copy
  refine Ev.bind (copy_loop l hl ho s0 s1 s2 s3 s4 l s6 l.length 0 [] (by omega) (by simp)) ?_
  rintro _ rfl
  exact Ev.guard (by simp only [maxLen]; omega) (Ev.some (by simp))
theorem sameOpt (o : Int) (b : List Int) : f18_broughamref07_SameOption o b o b = some true := by
  unfold f18_broughamref07_SameOption
  rw [if_pos (by simp), str_refl]
theorem same_loop (a0 a1 a2 a3 a4 : Int) (l : List O) (d6 x : List Int) (hl : l.length ≤ 1000) : ∀ (d : Nat) (i : Int) (hi : 0 ≤ i ∧ i + d = l.length), Ev (fun n => f49_broughamref07_Same_L4 n i x a0 a1 a2 a3 a4 l a0 a1 a2 a3 a4 l d6) (fun r => r = .inr x)
  | 0, i, hi => by
    apply Ev.succ
    unfold f49_broughamref07_Same_L4
    exact Ev.neg (by simp only [decide_eq_true_eq]; omega) (Ev.some rfl)
  | d + 1, i, hi => by
    apply Ev.succ
    unfold f49_broughamref07_Same_L4
    refine Ev.pos (by simp only [decide_eq_true_eq]; omega) (Ev.guard (by omega) (Ev.guard (by omega) ?_))
    refine Ev.bind (Ev.of (sameOpt _ _) rfl) ?_
    rintro _ rfl
    refine Ev.neg (by simp) ?_
    rw [i64_id (by omega) (by omega)]
    exact same_loop a0 a1 a2 a3 a4 l d6 x hl d (i + 1) (by omega)
theorem same_is (a0 a1 a2 a3 a4 : Int) (l : List O) (d6 : List Int) (hl : l.length ≤ 1000) : Ev (fun n => f49_broughamref07_Same n a0 a1 a2 a3 a4 l a0 a1 a2 a3 a4 l d6 d6) (fun r => r = (true, d6)) := by
  unfold f49_broughamref07_Same
  refine Ev.neg (by simp) (Ev.neg (by simp) (Ev.neg (by simp) (Ev.neg (by simp) (Ev.neg (by simp) (Ev.neg (by rw [str_refl]; simp) (Ev.neg (by simp) ?_))))))
  refine Ev.bind (same_loop a0 a1 a2 a3 a4 l d6 d6 hl l.length 0 (by omega)) ?_
  rintro _ rfl
  exact Ev.some rfl
theorem same2_loop (a0 a1 a2 a3 a4 : Int) (l : List O) (d6 : List Int) (hl : l.length ≤ 1000) : ∀ (d : Nat) (i : Int) (hi : 0 ≤ i ∧ i + d = l.length), Ev (fun n => f49_broughamref07_Same_v2_L4 n i a0 a1 a2 a3 a4 l d6 a0 a1 a2 a3 a4 l d6) (fun r => r = .inr ())
  | 0, i, hi => by
    apply Ev.succ
    unfold f49_broughamref07_Same_v2_L4
    exact Ev.neg (by simp only [decide_eq_true_eq]; omega) (Ev.some rfl)
  | d + 1, i, hi => by
    apply Ev.succ
    unfold f49_broughamref07_Same_v2_L4
    refine Ev.pos (by simp only [decide_eq_true_eq]; omega) (Ev.guard (by omega) (Ev.guard (by omega) ?_))
    refine Ev.bind (Ev.of (sameOpt _ _) rfl) ?_
    rintro _ rfl
    refine Ev.neg (by simp) ?_
    rw [i64_id (by omega) (by omega)]
    exact same2_loop a0 a1 a2 a3 a4 l d6 hl d (i + 1) (by omega)
theorem same2_is (a0 a1 a2 a3 a4 : Int) (l : List O) (d6 : List Int) (hl : l.length ≤ 1000) : Ev (fun n => f49_broughamref07_Same_v2 n a0 a1 a2 a3 a4 l d6 a0 a1 a2 a3 a4 l d6) (fun r => r = true) := by
  unfold f49_broughamref07_Same_v2
  refine Ev.neg (by simp) (Ev.neg (by simp) (Ev.neg (by simp) (Ev.neg (by simp) (Ev.neg (by simp) (Ev.neg (by rw [str_refl]; simp) (Ev.neg (by simp) ?_))))))
  refine Ev.bind (same2_loop a0 a1 a2 a3 a4 l d6 hl l.length 0 (by omega)) ?_
  rintro _ rfl
  exact Ev.some rfl
theorem take_eq (s0 s1 s2 s3 s4 : Int) (h4 : 0 ≤ s4 ∧ s4 < 256) (l : List O) (s6 : List Int) : f53_seg_Take s0 s1 s2 s3 s4 l s6 = f54_broughamref07_Take s0 s1 s2 s3 s4 l s6 := by
  unfold f53_seg_Take f54_broughamref07_Take
  have e : bits .and .u8 s4 1 = s4 % 2 := bits_mask .u8 8 (by decide) wraps_u8 1 (by decide) s4 h4.1 (by omega)
  rw [e, tmod_e h4.1]
  have : s4 % 2 = 0 ∨ s4 % 2 = 1 := by omega
  rcases this with h | h
  · rw [h, if_neg (by decide)]
    congr 1
    rw [show IntKind.wrap .u32 0 = 0 from rfl, Int.add_zero, w_u32, w_u32]; omega
  · rw [h, if_pos (by decide)]; rfl
theorem xor_all : ∀ c : Fin 256, bits .xor .u8 (c.val : Int) 255 ≠ (c.val : Int) := by decide +kernel
theorem xor_ne {c : Int} (h : 0 ≤ c ∧ c < 256) : bits .xor .u8 c 255 ≠ c := by
  have := xor_all ⟨c.toNat, by omega⟩
  rwa [show ((c.toNat : Nat) : Int) = c by omega] at this
/-- The copy's bytes, turned over from the i-th one on. -/
theorem turn_loop (l want5 c5 s5 : List O) (ok is_ : Bool) (s0 s1 s2 s3 s4 : Int) (s6 : List Int) (o0 : Int) (o1 : List Int) (p0 : Int) (p1 : List Int) (w0 w1 w2 w3 w4 : Int) (w6 : List Int) (c0 c1 c2 c3 c4 : Int) (L : Nat) (hL : L ≤ 2000) : ∀ (d : Nat) (i : Int) (b : List Int) (hb : b.length = L) (hi : 0 ≤ i ∧ i + d = L),
    Ev (fun n => f10_broughamlaw07_SegParts_L11 n l ok is_ i s0 s1 s2 s3 s4 s5 s6 o0 o1 p0 p1 w0 w1 w2 w3 w4 want5 w6 c0 c1 c2 c3 c4 c5 b)
      (fun w => ∃ b', w = (l, ok, is_, s0, s1, s2, s3, s4, s5, s6, o0, o1, p0, p1, w0, w1, w2, w3, w4, want5, w6, c0, c1, c2, c3, c4, c5, b') ∧ b'.length = L ∧ (1 ≤ i → b'.getD 0 0 = b.getD 0 0) ∧ (i = 0 → 0 < L → b'.getD 0 0 = bits .xor .u8 (b.getD 0 0) 255))
  | 0, i, b, hb, hi => by
    apply Ev.succ
    unfold f10_broughamlaw07_SegParts_L11
    refine Ev.neg (by simp only [decide_eq_true_eq]; omega) (Ev.some ⟨b, rfl, hb, fun _ => rfl, fun h1 h2 => by omega⟩)
  | d + 1, i, b, hb, hi => by
    apply Ev.succ
    unfold f10_broughamlaw07_SegParts_L11
    refine Ev.pos (by simp only [decide_eq_true_eq]; omega) (Ev.guard (by omega) (Ev.guard (by omega) ?_))
    rw [i64_id (by omega) (by omega)]
    refine (turn_loop l want5 c5 s5 ok is_ s0 s1 s2 s3 s4 s6 o0 o1 p0 p1 w0 w1 w2 w3 w4 w6 c0 c1 c2 c3 c4 L hL d (i + 1) (b.set i.toNat (bits .xor .u8 (b.getD i.toNat 0) 255)) (by rw [List.length_set, hb]) (by omega)).mono ?_
    rintro _ ⟨b', h1, h2, h3, h4⟩
    refine ⟨b', h1, h2, fun hi1 => ?_, fun hi0 h0 => ?_⟩
    · rw [h3 (by omega)]
      simp only [List.getD_eq_getElem?_getD]
      rw [List.getElem?_set_ne (by omega)]
    · subst hi0
      rw [h3 (by omega)]
      simp only [List.getD_eq_getElem?_getD]
      show ((b.set 0 _)[0]?).getD 0 = _
      rw [List.getElem?_set_self (by omega)]; rfl

theorem SegParts (s : Int × Int × Int × Int × Int × List O × List Int) (h0 : K.ok (.pair (.int .u16) (.pair (.int .u16) (.pair (.int .u32) (.pair (.int .u32) (.pair (.int .u8) (.pair (.slice (.pair (.int .u8) (.slice (.int .u8)))) (.slice (.int .u8)))))))) s) (kind : Int) (h1 : K.ok (.int .u8) kind) (l : List O) (h2 : K.ok (.slice (.pair (.int .u8) (.slice (.int .u8)))) l) :
    ∃ n, f10_broughamlaw07_SegParts n s.1 s.2.1 s.2.2.1 s.2.2.2.1 s.2.2.2.2.1 s.2.2.2.2.2.1 s.2.2.2.2.2.2 kind l = some true := by
  obtain ⟨s0, s1, s2, s3, s4, s5, s6⟩ := s
  have h4 : 0 ≤ s4 ∧ s4 < 256 := ok_u8 h0.2.2.2.2.1
  have h6 : Bytes s6 := ok_bytes h0.2.2.2.2.2.2
  apply Ev.true
  unfold f10_broughamlaw07_SegParts
  refine Ev.bind (great_is s0 s1 s2 s3 s4 s5 s6) ?_
  rintro _ (rfl | ⟨rfl, g1, g2, g3⟩)
  · exact Ev.pos rfl (Ev.some rfl)
  refine Ev.neg (by simp) ?_
  refine Ev.bind (great_is 0 0 0 0 0 l []) ?_
  rintro _ (rfl | ⟨rfl, k1, k2, k3⟩)
  · exact Ev.pos rfl (Ev.some rfl)
  refine Ev.neg (by simp) ?_
  refine Ev.bind (first_is s0 s1 s2 s3 s4 s5 s6 kind (by omega)) ?_
  rintro _ rfl
  refine Ev.bind (refFirst_is s0 s1 s2 s3 s4 s5 s6 kind (by omega)) ?_
  rintro _ rfl
  refine Ev.bind (copy_is s5 (by omega) g3 s0 s1 s2 s3 s4 s6 g2) ?_
  rintro _ rfl
  refine Ev.bind (same_is s0 s1 s2 s3 s4 s5 s6 (by omega)) ?_
  rintro _ rfl
  refine Ev.neg (by simp) ?_
  refine Ev.bind (turn_loop l l s5 s5 _ _ s0 s1 s2 s3 s4 s6 _ _ _ _ s0 s1 s2 s3 s4 s6 s0 s1 s2 s3 s4 s6.length (by omega) s6.length 0 s6 rfl (by omega)) ?_
  rintro _ ⟨b', rfl, hb1, _, hb2⟩
  dsimp only
  refine Ev.bind (copy_is s5 (by omega) g3 s0 s1 s2 s3 s4 s6 g2) ?_
  rintro _ rfl
  have ht : ∃ r, f54_broughamref07_Take s0 s1 s2 s3 s4 s5 s6 = some r := ⟨_, rfl⟩
  obtain ⟨r, hr⟩ := ht
  refine Ev.bind (Ev.of ((take_eq s0 s1 s2 s3 s4 h4 s5 s6).trans hr) rfl) ?_
  rintro _ rfl
  refine Ev.bind (Ev.of hr rfl) ?_
  rintro _ rfl
  refine Ev.pos (by simp) (Ev.pos (by simp) ?_)
  refine Ev.bind (Ev.of (sameOpt _ _) rfl) ?_
  rintro _ rfl
  refine Ev.pos rfl ?_
  have hof : f55_seg_Of s0 s1 s2 s3 s4 s5 s6 l = some (s0, s1, s2, s3, s4, l, s6) := by
    unfold f55_seg_Of; rw [if_pos (by simp only [maxLen]; omega)]
  refine Ev.bind (Ev.of hof rfl) ?_
  rintro _ rfl
  refine Ev.bind (same2_is s0 s1 s2 s3 s4 l s6 (by omega)) ?_
  rintro _ rfl
  refine Ev.pos rfl ?_
  refine Ev.bind (same_is s0 s1 s2 s3 s4 s5 s6 (by omega)) ?_
  rintro _ rfl
  refine Ev.pos rfl ?_
  refine Ev.ite (fun c => ?_) (fun c => ?_)
  · exact Ev.bind alive_ev (fun r hr => Ev.some hr)
  · have c : 0 < s6.length := by
      simp only [beq_iff_eq] at c; omega
    refine Ev.guard (by omega) (Ev.guard (by omega) (Ev.pos ?_ (Ev.bind alive_ev (fun r hr => Ev.some hr))))
    simp only [bne_iff_ne, ne_eq]
    rw [hb2 rfl c]
    exact xor_ne (h6.get 0)
end Go.Proofs.YtddglebabaaghaaF07b
