/- Names of some values: of the functions that text F40b prints. -/
import Derived.Test.YtjoibacjpapncaaPureRef40b
namespace Go.Proofs.YtjoibacjpapncaaF40b
open Go Zed
set_option linter.unusedVariables false
set_option linter.unusedSimpArgs false

theorem index_loop (s : List Int) (hs : s.length ≤ 100) (v : Int) : ∀ (d : Nat) (i : Int) (hi : 0 ≤ i ∧ i + d = s.length),
    Ev (fun n => f130_slices_Index_int_int_L2 n s v ((s.length : Nat) : Int) i) (fun w => match w with | .inl e => 0 ≤ e ∧ v ∈ s.drop i.toNat | .inr _ => v ∉ s.drop i.toNat)
  | 0, i, hi => by
    apply Ev.succ
    unfold f130_slices_Index_int_int_L2
    refine Ev.neg (by simp only [decide_eq_true_eq]; omega) (Ev.some ?_)
    show v ∉ s.drop i.toNat
    rw [List.drop_eq_nil_of_le (by omega)]; simp
  | d + 1, i, hi => by
    have e1 : s.drop i.toNat = s.getD i.toNat 0 :: s.drop (i.toNat + 1) := drop_cons (by omega) _
    apply Ev.succ
    unfold f130_slices_Index_int_int_L2
    refine Ev.pos (by simp only [decide_eq_true_eq]; omega) (Ev.guard (by omega) (Ev.ite (fun c => Ev.some ?_) (fun c => ?_)))
    · simp only [beq_iff_eq] at c
      show 0 ≤ i ∧ v ∈ s.drop i.toNat
      rw [e1, ← c]; exact ⟨hi.1, List.mem_cons_self⟩
    · simp only [beq_iff_eq] at c
      rw [i64_id (by omega) (by omega)]
      refine (index_loop s hs v d (i + 1) (by omega)).mono fun w hw => ?_
      rw [e1, show i.toNat + 1 = (i + 1).toNat by omega]
      cases w with
      | inl e => exact ⟨hw.1, List.mem_cons_of_mem _ hw.2⟩
      | inr e => exact fun q => by rcases List.mem_cons.1 q with q | q; exact c q; exact hw q
theorem contains_is (s : List Int) (hs : s.length ≤ 100) (v : Int) : Ev (fun n => f99_slices_Contains_int_int n s v) (fun r => r = decide (v ∈ s)) := by
  unfold f99_slices_Contains_int_int f130_slices_Index_int_int
  refine Ev.bind (P := fun r => decide (r ≥ 0) = decide (v ∈ s)) ?_ (fun r hr => Ev.some hr)
  refine Ev.bind (index_loop s hs v s.length 0 (by omega)) ?_
  intro w hw
  cases w with
  | inl e =>
    refine Ev.some ?_
    rw [decide_eq_true (show e ≥ 0 from hw.1), decide_eq_true (show v ∈ s from hw.2)]
  | inr e =>
    refine Ev.some ?_
    rw [decide_eq_false (show ¬ v ∈ s from hw)]; rfl
theorem any_loop (l : M) (values out : List Int) (hv : values.length ≤ 100) (i : Int) (hi : 0 ≤ i ∧ i < l.length) : ∀ (d : Nat) (k : Int) (ok : Bool) (hk : 0 ≤ k ∧ k + d = values.length),
    Ev (fun n => f63_broughamlaw40_names_L7 n l values out i ok k) (fun w => w = (l, values, out, i, ok || decide ((l.getD i.toNat (0, 0)).2 ∈ values.drop k.toNat)))
  | 0, k, ok, hk => by
    apply Ev.succ
    unfold f63_broughamlaw40_names_L7
    refine Ev.neg (by simp only [decide_eq_true_eq]; omega) (Ev.some ?_)
    rw [List.drop_eq_nil_of_le (by omega)]; simp
  | d + 1, k, ok, hk => by
    have e1 : values.drop k.toNat = values.getD k.toNat 0 :: values.drop (k.toNat + 1) := drop_cons (by omega) _
    have e2 : (k + 1).toNat = k.toNat + 1 := by omega
    apply Ev.succ
    unfold f63_broughamlaw40_names_L7
    rw [i64_id (e := k + 1) (by omega) (by omega)]
    refine Ev.pos (by simp only [decide_eq_true_eq]; omega) (Ev.ite (fun c => ?_) (fun c => Ev.guard (by omega) (Ev.guard (by omega) ?_)))
    · refine (any_loop l values out hv i hi d (k + 1) true (by omega)).mono ?_
      rintro _ rfl
      rw [c]; simp
    · refine (any_loop l values out hv i hi d (k + 1) _ (by omega)).mono ?_
      rintro _ rfl
      have hf : ok = false := by simpa using c
      rw [hf, e1, e2, Bool.false_or, Prod.mk.injEq, Prod.mk.injEq, Prod.mk.injEq, Prod.mk.injEq]
      refine ⟨rfl, rfl, rfl, rfl, ?_⟩
      generalize (l.getD i.toNat (0, 0)).2 = x
      generalize values.getD k.toNat 0 = y
      generalize values.drop (k.toNat + 1) = r
      by_cases h : x = y
      · subst h
        rw [decide_eq_true (show x ∈ x :: r from List.mem_cons_self)]
        simp
      · by_cases h2 : x ∈ r
        · rw [decide_eq_true h2, decide_eq_true (List.mem_cons_of_mem _ h2), Bool.or_true]
        · rw [decide_eq_false h2, decide_eq_false (fun q => by rcases List.mem_cons.1 q with q | q; exact h q; exact h2 q), Bool.or_false]
          simpa using h
/-- Is a name asked for? -/
def nv (values : List Int) (p : Int × Int) : Bool := (((values.length : Nat) : Int) == 0) || decide (p.2 ∈ values)
theorem refnames_loop (l : M) (hl : l.length ≤ 1000) (values : List Int) (hv : values.length ≤ 100) : ∀ (d : Nat) (i : Int) (out : List Int) (hi : 0 ≤ i ∧ i + d = l.length) (ho : out.length ≤ i.toNat),
    Ev (fun n => f63_broughamlaw40_names_L3 n l values out i) (fun w => w = out ++ ((l.drop i.toNat).filter (nv values)).map Prod.fst)
  | 0, i, out, hi, ho => by
    apply Ev.succ
    unfold f63_broughamlaw40_names_L3
    refine Ev.neg (by simp only [decide_eq_true_eq]; omega) (Ev.some ?_)
    rw [List.drop_eq_nil_of_le (by omega)]; simp
  | d + 1, i, out, hi, ho => by
    have e1 : l.drop i.toNat = l.getD i.toNat (0, 0) :: l.drop (i.toNat + 1) := drop_cons (by omega) _
    have e2 : (i + 1).toNat = i.toNat + 1 := by omega
    apply Ev.succ
    unfold f63_broughamlaw40_names_L3
    refine Ev.pos (by simp only [decide_eq_true_eq]; omega) ?_
    refine Ev.bind (any_loop l values out hv i (by omega) values.length 0 _ (by omega)) ?_
    rintro _ rfl
    rw [show values.drop (0 : Int).toNat = values from rfl]
    dsimp only
    rw [i64_id (e := i + 1) (by omega) (by omega)]
    refine Ev.ite (fun c => Ev.guard (by omega) (Ev.guard (by simp only [List.length_singleton, maxLen]; omega) ?_)) (fun c => ?_)
    · refine (refnames_loop l hl values hv d (i + 1) _ (by omega) (by simp only [List.length_append, List.length_singleton]; omega)).mono ?_
      rintro _ rfl
      have hc : nv values (l.getD i.toNat (0, 0)) = true := c
      rw [e1, e2, List.filter_cons, if_pos hc]; simp
    · refine (refnames_loop l hl values hv d (i + 1) out (by omega) (by omega)).mono ?_
      rintro _ rfl
      have hc : ¬ nv values (l.getD i.toNat (0, 0)) = true := c
      rw [e1, e2, List.filter_cons, if_neg hc]
theorem refnames_is (l : M) (hl : l.length ≤ 1000) (values : List Int) (hv : values.length ≤ 100) : Ev (fun n => f63_broughamlaw40_names n l values) (fun r => r = (l.filter (nv values)).map Prod.fst) := by
  unfold f63_broughamlaw40_names
  refine Ev.bind (refnames_loop l hl values hv l.length 0 [] (by omega) (by simp)) ?_
  rintro _ rfl
  exact Ev.some (by simp)
end Go.Proofs.YtjoibacjpapncaaF40b
