/- OptOne: the only option of a kind of any segment, as the document says: of the functions that text F08 prints. Conditions: none. -/
import Derived.Test.YtddglebabaaghaaPurePack08
namespace Go.Proofs.YtddglebabaaghaaF08
open Go Zed
set_option linter.unusedVariables false
set_option linter.unusedSimpArgs false

abbrev O := Int × List Int
def flt (k : Int) (l : List O) : List O := l.filter fun o => o.1 == k
def one (k : Int) (l : List O) : Bool × Int × List Int := match flt k l with
  | [o] => (true, o.1, o.2)
  | _ => (false, 0, [])
theorem flt_snoc (k : Int) (l : List O) (o : O) : flt k (l ++ [o]) = if o.1 == k then flt k l ++ [o] else flt k l := by
  unfold flt; rw [List.filter_append]; by_cases h : (o.1 == k) = true <;> simp [h, List.filter]
theorem take_snoc (l : List O) {i : Nat} (h : i < l.length) : l.take (i + 1) = l.take i ++ [l.getD i (0, [])] := by
  rw [List.take_succ_eq_append_getElem h]; simp [List.getD, List.getElem?_eq_getElem h]

def lst (l : List O) : O := l.getLast?.getD (0, [])
theorem lst_snoc (l : List O) (o : O) : lst (l ++ [o]) = o := by simp [lst]

theorem loop1 (k : Int) (l : List O) (hl : l.length ≤ 1000) (t4 : Int) : ∀ (m i : Nat), i + m = l.length →
    Ev (fun n => f16_opt_One_L4 n k ((flt k (l.take i)).length : Int) l ((l.length : Nat) : Int) i t4 (lst (flt k (l.take i))).1 (lst (flt k (l.take i))).2) (fun r => r = (((flt k l).length : Int), t4, (lst (flt k l)).1, (lst (flt k l)).2))
  | 0, i, h => by
    apply Ev.succ
    simp only [f16_opt_One_L4]
    exact Ev.neg (by simp; omega) (Ev.some (by rw [List.take_of_length_le (by omega)]))
  | m + 1, i, h => by
    apply Ev.succ
    simp only [f16_opt_One_L4]
    have hi : i < l.length := by omega
    have ih := loop1 k l hl t4 m (i + 1) (by omega)
    rw [take_snoc l hi, flt_snoc] at ih
    have hle : (flt k (l.take i)).length ≤ i := by
      have := List.length_filter_le (fun o : O => o.1 == k) (l.take i)
      simp only [List.length_take] at this
      unfold flt; omega
    rw [Int.toNat_natCast, i64_id (show -9223372036854775808 ≤ (i : Int) + 1 by omega) (by omega), show (i : Int) + 1 = ((i + 1 : Nat) : Int) by omega, i64_id (show -9223372036854775808 ≤ ((flt k (l.take i)).length : Int) + 1 by omega) (by omega)]
    refine Ev.pos (by simp; omega) (Ev.guard (by omega) (Ev.ite (fun hc => ?_) (fun hc => ?_)))
    · rw [if_pos hc, lst_snoc] at ih
      rw [show ((flt k (l.take i)).length : Int) + 1 = ((flt k (l.take i) ++ [l.getD i (0, [])]).length : Int) by simp]
      exact ih
    · rw [if_neg hc] at ih
      exact ih

theorem one_is (s0 s1 s2 s3 s4 : Int) (l : List O) (s6 : List Int) (k : Int) (hl : l.length ≤ 1000) : Ev (fun n => f16_opt_One n s0 s1 s2 s3 s4 l s6 k) (fun r => r = one k l) := by
  simp only [f16_opt_One]
  have h0 : Ev (fun n => f16_opt_One_L4 n k 0 l ((l.length : Nat) : Int) 0 0 0 []) (fun r => r = (((flt k l).length : Int), 0, (lst (flt k l)).1, (lst (flt k l)).2)) := loop1 k l hl 0 l.length 0 (by omega)
  refine Ev.bind h0 ?_
  rintro _ rfl
  dsimp only
  unfold one
  generalize flt k l = f
  rcases f with _ | ⟨o, _ | ⟨p, q⟩⟩
  · exact Ev.pos (by simp) (Ev.some rfl)
  · exact Ev.neg (by simp) (Ev.some rfl)
  · exact Ev.pos (by simp; omega) (Ev.some rfl)

theorem loop2 (s0 s1 s2 s3 s4 : Int) (s6 : List Int) (k : Int) (l : List O) (hl : l.length ≤ 1000) (t4 : Int) : ∀ (m i : Nat) (at_ : Int), i + m = l.length →
    ((at_ = -1 ∧ flt k (l.take i) = []) ∨ (0 ≤ at_ ∧ at_ < i ∧ flt k (l.take i) = [l.getD at_.toNat (0, [])])) →
    Ev (fun n => f17_broughamref08_One_L3 n k at_ i s0 s1 s2 s3 s4 l s6 t4) (fun r => (r = .inl (false, 0, []) ∧ one k l = (false, 0, [])) ∨ (r = .inr (-1, s0, s1, s2, s3, s4, l, s6, t4) ∧ one k l = (false, 0, [])) ∨ ∃ a : Int, 0 ≤ a ∧ a < l.length ∧ r = .inr (a, s0, s1, s2, s3, s4, l, s6, t4) ∧ one k l = (true, (l.getD a.toNat (0, [])).1, (l.getD a.toNat (0, [])).2))
  | 0, i, at_, h, hinv => by
    apply Ev.succ
    simp only [f17_broughamref08_One_L3]
    rw [List.take_of_length_le (by omega)] at hinv
    refine Ev.neg (by simp; omega) (Ev.some ?_)
    rcases hinv with ⟨rfl, he⟩ | ⟨h1, h2, he⟩
    · exact .inr (.inl ⟨rfl, by simp [one, he]⟩)
    · exact .inr (.inr ⟨at_, h1, by omega, rfl, by simp [one, he]⟩)
  | m + 1, i, at_, h, hinv => by
    apply Ev.succ
    simp only [f17_broughamref08_One_L3]
    have hi : i < l.length := by omega
    have hfs := flt_snoc k (l.take i) (l.getD i (0, []))
    rw [← take_snoc l hi] at hfs
    rw [Int.toNat_natCast, i64_id (show -9223372036854775808 ≤ (i : Int) + 1 by omega) (by omega), show (i : Int) + 1 = ((i + 1 : Nat) : Int) by omega]
    refine Ev.pos (by simp; omega) (Ev.guard (by omega) (Ev.ite (fun hc => ?_) (fun hc => Ev.ite (fun h2 => ?_) (fun h2 => ?_))))
    · have hc' : ((l.getD i (0, [])).1 == k) = false := by simpa [bne] using hc
      rw [if_neg (by rw [hc']; decide)] at hfs
      refine loop2 s0 s1 s2 s3 s4 s6 k l hl t4 m (i + 1) at_ (by omega) ?_
      rw [hfs]
      rcases hinv with ⟨rfl, he⟩ | ⟨q1, q2, he⟩
      · exact .inl ⟨rfl, he⟩
      · exact .inr ⟨q1, by omega, he⟩
    · have hc' : ((l.getD i (0, [])).1 == k) = true := by simpa [bne] using hc
      rw [if_pos hc'] at hfs
      simp only [ge_iff_le, decide_eq_true_eq] at h2
      refine Ev.some (.inl ⟨rfl, ?_⟩)
      rcases hinv with ⟨rfl, he⟩ | ⟨q1, q2, he⟩
      · omega
      · have hall : flt k l = flt k (l.take (i + 1)) ++ flt k (l.drop (i + 1)) := by unfold flt; rw [← List.filter_append, List.take_append_drop]
        unfold one
        rw [hall, hfs, he]
        rfl
    · have hc' : ((l.getD i (0, [])).1 == k) = true := by simpa [bne] using hc
      rw [if_pos hc'] at hfs
      simp only [ge_iff_le, decide_eq_true_eq] at h2
      refine loop2 s0 s1 s2 s3 s4 s6 k l hl t4 m (i + 1) i (by omega) (.inr ⟨by omega, by omega, ?_⟩)
      rcases hinv with ⟨rfl, he⟩ | ⟨q1, q2, he⟩
      · rw [hfs, he]; simp
      · omega

theorem refOne_is (s0 s1 s2 s3 s4 : Int) (l : List O) (s6 : List Int) (k : Int) (hl : l.length ≤ 1000) : Ev (fun n => f17_broughamref08_One n s0 s1 s2 s3 s4 l s6 k) (fun r => r = one k l) := by
  simp only [f17_broughamref08_One]
  refine Ev.bind (loop2 s0 s1 s2 s3 s4 s6 k l hl 0 l.length 0 (-1) (by omega) (.inl ⟨rfl, by simp [flt]⟩)) ?_
  rintro _ (⟨rfl, h⟩ | ⟨rfl, h⟩ | ⟨a, h0, h1, rfl, h⟩)
  · exact Ev.some h.symm
  · exact Ev.pos (by simp) (Ev.some h.symm)
  · exact Ev.neg (by simp; omega) (Ev.guard (by simp; omega) (Ev.some h.symm))

theorem great_is (s0 s1 s2 s3 s4 : Int) (l : List O) (s6 : List Int) : Ev (fun n => f15_broughamlaw07_Great n s0 s1 s2 s3 s4 l s6) (fun r => r = true ∨ (r = false ∧ l.length ≤ 120 ∧ s6.length ≤ 2000 ∧ ∀ o ∈ l, o.2.length ≤ 400)) := by
  have loop : ∀ (m i : Nat), i + m = l.length → l.length ≤ 120 → (∀ o ∈ l.take i, o.2.length ≤ 400) → Ev (fun n => f15_broughamlaw07_Great_L4 n i s0 s1 s2 s3 s4 l s6) (fun r => r = .inl true ∨ (r = .inr () ∧ ∀ o ∈ l, o.2.length ≤ 400)) := by
    intro m
    induction m with
    | zero =>
      intro i h hl hh
      apply Ev.succ
      simp only [f15_broughamlaw07_Great_L4]
      rw [List.take_of_length_le (by omega)] at hh
      exact Ev.neg (by simp; omega) (Ev.some (.inr ⟨rfl, hh⟩))
    | succ m ih =>
      intro i h hl hh
      apply Ev.succ
      simp only [f15_broughamlaw07_Great_L4]
      have hi : i < l.length := by omega
      rw [Int.toNat_natCast, i64_id (show -9223372036854775808 ≤ (i : Int) + 1 by omega) (by omega), show (i : Int) + 1 = ((i + 1 : Nat) : Int) by omega]
      refine Ev.pos (by simp; omega) (Ev.guard (by omega) (Ev.ite (fun _ => Ev.some (.inl rfl)) (fun h2 => ih (i + 1) (by omega) hl ?_)))
      simp only [gt_iff_lt, decide_eq_true_eq] at h2
      rw [take_snoc l hi]
      intro o ho
      rcases List.mem_append.1 ho with h3 | h3
      · exact hh o h3
      · simp only [List.mem_singleton] at h3; subst h3; omega
  simp only [f15_broughamlaw07_Great]
  refine Ev.ite (fun _ => Ev.some (.inl rfl)) (fun h1 => Ev.ite (fun _ => Ev.some (.inl rfl)) (fun h2 => ?_))
  simp only [gt_iff_lt, decide_eq_true_eq] at h1 h2
  refine Ev.bind (loop l.length 0 (by omega) (by omega) (by simp)) ?_
  rintro _ (rfl | ⟨rfl, h⟩)
  · exact Ev.some (.inl rfl)
  · exact Ev.some (.inr ⟨rfl, by omega, by omega, h⟩)

theorem alive_is : Ev (fun n => f19_broughamlaw08_alive n) (fun r => r = true) := by
  refine Ev.at 20 (fun m => ?_) rfl
  have h1 : f21_opt_Key_Option (m + 20) 1 false 0 = some (1, [0, 0, 0, 0, 0, 0, 0, 1]) := by kernel_rfl
  have h2 : f32_opt_ParseKey (m + 20) 1 [0, 0, 0, 0, 0, 0, 0, 1] = some (true, 1, false, 0) := by kernel_rfl
  have h3 : f72_opt_Tagged_Seal 9 false false 3 0 0 0 = some (false, false, 3, 0, 0, 9) := by kernel_rfl
  have h4 : ∃ l : List Int, l.length = 29 ∧ f26_opt_Data_Option (m + 20) false false 3 0 0 9 = some (3, l) := ⟨[0, 0, 0, 0, 0, 0, 0, 0, 3, 0, 0, 0, 0, 0, 0, 0, 0, 0, 0, 0, 0, 0, 0, 0, 0, 0, 0, 0, 9], rfl, by kernel_rfl⟩
  obtain ⟨l, hl, h4⟩ := h4
  simp only [f19_broughamlaw08_alive, h1, h2, h3, h4, Option.bind_some, ByteArray.toList_eq, strOfNums_data, hl]
  decide +kernel

theorem OptOne (s : Int × Int × Int × Int × Int × List (Int × List Int) × List Int) (h0 : K.ok (.pair (.int .u16) (.pair (.int .u16) (.pair (.int .u32) (.pair (.int .u32) (.pair (.int .u8) (.pair (.slice (.pair (.int .u8) (.slice (.int .u8)))) (.slice (.int .u8)))))))) s) (kind : Int) (h1 : K.ok (.int .u8) kind) :
    ∃ n, f3_broughamlaw08_OptOne n s.1 s.2.1 s.2.2.1 s.2.2.2.1 s.2.2.2.2.1 s.2.2.2.2.2.1 s.2.2.2.2.2.2 kind = some true := by
  apply Ev.true
  simp only [f3_broughamlaw08_OptOne]
  refine Ev.bind (great_is _ _ _ _ _ _ _) ?_
  rintro _ (rfl | ⟨rfl, hl, _, _⟩)
  · exact Ev.pos rfl (Ev.some rfl)
  · refine Ev.neg (by decide) (Ev.bind (one_is _ _ _ _ _ _ _ _ (by omega)) ?_)
    rintro _ rfl
    refine Ev.bind (refOne_is _ _ _ _ _ _ _ _ (by omega)) ?_
    rintro _ rfl
    refine Ev.pos (by simp) ?_
    simp only [f18_broughamref07_SameOption, beq_self_eq_true, if_true, Option.bind_some]
    exact Ev.bind alive_is (fun r hr => Ev.some hr)
end Go.Proofs.YtddglebabaaghaaF08
