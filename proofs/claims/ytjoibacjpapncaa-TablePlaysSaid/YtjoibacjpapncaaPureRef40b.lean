/- The document's row of names: of the functions that text F40b prints. -/
import Derived.Test.YtjoibacjpapncaaPureTable3b
namespace Go.Proofs.YtjoibacjpapncaaF40b
open Go Zed
set_option linter.unusedVariables false
set_option linter.unusedSimpArgs false

theorem refget_loop (l : M) (hl : l.length ≤ 1000) (name : Int) : ∀ (d : Nat) (i : Int) (hi : 0 ≤ i ∧ i + d = l.length),
    Ev (fun n => f59_broughamref40_Get_L2 n l name i) (fun w => (match w with | .inl e => e | .inr _ => (0, false)) = (gt (l.drop i.toNat) name, decide (name ∈ (l.drop i.toNat).map Prod.fst)))
  | 0, i, hi => by
    apply Ev.succ
    unfold f59_broughamref40_Get_L2
    refine Ev.neg (by simp only [decide_eq_true_eq]; omega) (Ev.some ?_)
    rw [List.drop_eq_nil_of_le (by omega)]; rfl
  | d + 1, i, hi => by
    have e1 : l.drop i.toNat = l.getD i.toNat (0, 0) :: l.drop (i.toNat + 1) := drop_cons (by omega) _
    apply Ev.succ
    unfold f59_broughamref40_Get_L2
    refine Ev.pos (by simp only [decide_eq_true_eq]; omega) (Ev.guard (by omega) (Ev.ite (fun c => Ev.guard (by omega) (Ev.some ?_)) (fun c => ?_)))
    · simp only [beq_iff_eq] at c
      rw [e1, gt, if_pos c, decide_eq_true (by rw [List.map_cons, c]; exact List.mem_cons_self)]
    · simp only [beq_iff_eq] at c
      rw [i64_id (by omega) (by omega)]
      refine (refget_loop l hl name d (i + 1) (by omega)).mono fun w hw => ?_
      rw [e1, gt, if_neg c, show i.toNat + 1 = (i + 1).toNat by omega]
      rw [hw, Prod.mk.injEq]
      refine ⟨rfl, ?_⟩
      rw [List.map_cons]
      by_cases h : name ∈ (l.drop (i + 1).toNat).map Prod.fst
      · rw [decide_eq_true h, decide_eq_true (List.mem_cons_of_mem _ h)]
      · rw [decide_eq_false h, decide_eq_false (fun q => by rcases List.mem_cons.1 q with q | q; exact c q.symm; exact h q)]
theorem refget_is (l : M) (hl : l.length ≤ 1000) (name : Int) : Ev (fun n => f59_broughamref40_Get n l name) (fun r => r = (gt l name, decide (name ∈ l.map Prod.fst))) := by
  unfold f59_broughamref40_Get
  refine Ev.bind (refget_loop l hl name l.length 0 (by omega)) ?_
  intro w hw
  cases w with
  | inl e => exact Ev.some hw
  | inr e => exact Ev.some hw
theorem refdel_loop (l : M) (hl : l.length ≤ 1000) (name : Int) : ∀ (d : Nat) (i : Int) (out : M) (hi : 0 ≤ i ∧ i + d = l.length) (ho : out.length ≤ i.toNat),
    Ev (fun n => f58_broughamref40_Delete_L3 n l name out i) (fun w => w = (l, out ++ others (l.drop i.toNat) name))
  | 0, i, out, hi, ho => by
    apply Ev.succ
    unfold f58_broughamref40_Delete_L3
    refine Ev.neg (by simp only [decide_eq_true_eq]; omega) (Ev.some ?_)
    rw [List.drop_eq_nil_of_le (by omega)]; simp [others]
  | d + 1, i, out, hi, ho => by
    have e1 : l.drop i.toNat = l.getD i.toNat (0, 0) :: l.drop (i.toNat + 1) := drop_cons (by omega) _
    have e2 : (i + 1).toNat = i.toNat + 1 := by omega
    apply Ev.succ
    unfold f58_broughamref40_Delete_L3
    rw [i64_id (e := i + 1) (by omega) (by omega)]
    refine Ev.pos (by simp only [decide_eq_true_eq]; omega) (Ev.guard (by omega) (Ev.ite (fun c => Ev.guard (by omega) (Ev.guard (by simp only [List.length_singleton, maxLen]; omega) ?_)) (fun c => ?_)))
    · simp only [bne_iff_ne, ne_eq] at c
      refine (refdel_loop l hl name d (i + 1) _ (by omega) (by simp only [List.length_append, List.length_singleton]; omega)).mono ?_
      rintro _ rfl
      rw [e1, others_cons_ne c, e2]; simp
    · simp only [bne_iff_ne, ne_eq, Decidable.not_not] at c
      refine (refdel_loop l hl name d (i + 1) out (by omega) (by omega)).mono ?_
      rintro _ rfl
      rw [e1, others_cons_eq c, e2]
theorem others_len {l : M} (h : Once l) (name : Int) : (others l name).length + (if name ∈ l.map Prod.fst then 1 else 0) = l.length := by
  by_cases hin : name ∈ l.map Prod.fst
  · rw [if_pos hin]
    obtain ⟨⟨a, v⟩, hq, rfl⟩ := List.mem_map.1 hin
    obtain ⟨A, R, rfl⟩ := List.append_of_mem hq
    rw [others_cut h]; simp; omega
  · rw [if_neg hin, others_out hin]; omega
theorem refdel_is (l : M) (hl : l.length ≤ 1000) (ho : Once l) (name : Int) : Ev (fun n => f58_broughamref40_Delete n l name) (fun r => r = (others l name, decide (name ∈ l.map Prod.fst))) := by
  unfold f58_broughamref40_Delete
  refine Ev.bind (refdel_loop l hl name l.length 0 [] (by omega) (by simp)) ?_
  rintro _ rfl
  refine Ev.some ?_
  have := others_len ho name
  rw [show l.drop (0 : Int).toNat = l from rfl, List.nil_append]
  dsimp only
  by_cases h : name ∈ l.map Prod.fst
  · rw [if_pos h] at this; rw [decide_eq_true h, decide_eq_true (by omega)]
  · rw [if_neg h] at this; rw [decide_eq_false h, decide_eq_false (by omega)]
/-- Rising by name. -/
def Rise (l : M) : Prop := l.Pairwise (fun a b => a.1 ≤ b.1)
def insP (x : Int × Int) : M → M
  | [] => [x]
  | p :: r => if p.1 ≤ x.1 then p :: insP x r else x :: p :: r
theorem insP_perm (x : Int × Int) : ∀ l : M, (insP x l).Perm (l ++ [x])
  | [] => List.Perm.refl _
  | p :: r => by
    rw [insP]; split
    · exact (insP_perm x r).cons p
    · exact (List.perm_append_singleton x (p :: r)).symm
theorem insP_rise (x : Int × Int) : ∀ l : M, Rise l → Rise (insP x l)
  | [], _ => List.pairwise_singleton _ _
  | p :: r, h => by
    have h' := List.pairwise_cons.1 h
    rw [insP]; split
    · rename_i hp
      refine List.pairwise_cons.2 ⟨fun q hq => ?_, insP_rise x r h'.2⟩
      rcases List.mem_append.1 ((insP_perm x r).mem_iff.1 hq) with hq | hq
      · exact h'.1 q hq
      · simp only [List.mem_singleton] at hq; subst hq; exact hp
    · rename_i hp
      refine List.pairwise_cons.2 ⟨fun q hq => ?_, h⟩
      rcases List.mem_cons.1 hq with rfl | hq
      · omega
      · have := h'.1 q hq; omega
theorem insP_split (x : Int × Int) : ∀ l : M, Rise l → ∃ L A, l = L ++ A ∧ insP x l = L ++ x :: A ∧ (∀ p ∈ L, p.1 ≤ x.1) ∧ (∀ p ∈ A, x.1 < p.1)
  | [], _ => ⟨[], [], rfl, rfl, fun p hp => (by cases hp), fun p hp => (by cases hp)⟩
  | p :: r, h => by
    have h' := List.pairwise_cons.1 h
    rw [insP]; split
    · rename_i hp
      obtain ⟨L, A, q1, q2, q3, q4⟩ := insP_split x r h'.2
      refine ⟨p :: L, A, by rw [q1]; rfl, by rw [q2]; rfl, fun q hq => ?_, q4⟩
      rcases List.mem_cons.1 hq with rfl | hq
      · exact hp
      · exact q3 q hq
    · rename_i hp
      refine ⟨[], p :: r, rfl, rfl, fun q hq => (by cases hq), fun q hq => ?_⟩
      rcases List.mem_cons.1 hq with rfl | hq
      · omega
      · have := h'.1 q hq; omega
theorem rise_others {l : M} (h : Rise l) (a : Int) : Rise (others l a) := List.Pairwise.sublist List.filter_sublist h
theorem getD_at {α : Type} (A : List α) (p : α) (r : List α) (d : α) : (A ++ p :: r).getD A.length d = p := by
  simp [List.getD_eq_getElem?_getD]
theorem set_at {α : Type} (A : List α) (p v : α) (r : List α) : (A ++ p :: r).set A.length v = A ++ v :: r := by
  induction A with
  | nil => rfl
  | cons x A ih => simp [ih]
theorem sink_loop (L : M) (x : Int × Int) (hL : ∀ p ∈ L, p.1 ≤ x.1) : ∀ (A R : M) (hA : ∀ p ∈ A, x.1 < p.1) (hl : L.length + A.length + R.length ≤ 1000),
    Ev (fun n => f60_broughamref40_Put_L7 n ((L.length + A.length : Nat) : Int) (L ++ A ++ x :: R)) (fun w => w = L ++ x :: (A ++ R)) := by
  intro A
  induction hn : A.length generalizing A with
  | zero =>
    intro R hA hl
    have e : A = [] := List.length_eq_zero_iff.1 hn
    subst e
    apply Ev.succ
    unfold f60_broughamref40_Put_L7
    rw [List.append_nil]
    refine Ev.ite (fun c => ?_) (fun c => Ev.some (by simp))
    simp only [decide_eq_true_eq] at c
    have hlen : (L ++ x :: R).length = L.length + R.length + 1 := by simp; omega
    have e1 : IntKind.wrap .i64 (((L.length + 0 : Nat) : Int) - 1) = ((L.length - 1 : Nat) : Int) := by rw [i64_id (by omega) (by omega)]; omega
    rw [e1, Int.toNat_natCast, Int.toNat_natCast]
    refine Ev.guard (by omega) (Ev.guard (by omega) (Ev.neg ?_ (Ev.some (by simp))))
    have e2 : (L ++ x :: R).getD (L.length + 0) (0, 0) = x := getD_at L x R _
    have e3 : (L ++ x :: R).getD (L.length - 1) (0, 0) ∈ L := by
      rw [List.getD_eq_getElem?_getD, List.getElem?_append_left (by omega), ← List.getD_eq_getElem?_getD]
      exact getD_mem (by omega) _
    have := hL _ e3
    rw [e2]
    simp only [decide_eq_true_eq]; omega
  | succ k ih =>
    intro R hA hl
    obtain ⟨A', q, rfl⟩ : ∃ A' q, A = A' ++ [q] := by
      have : A ≠ [] := fun e => by subst e; cases hn
      exact ⟨A.dropLast, A.getLast this, (List.dropLast_concat_getLast this).symm⟩
    have hk : A'.length = k := by simp only [List.length_append, List.length_singleton] at hn; omega
    have hq : x.1 < q.1 := hA q (by simp)
    have hlen : (L ++ (A' ++ [q]) ++ x :: R).length = L.length + A'.length + R.length + 2 := by simp; omega
    apply Ev.succ
    unfold f60_broughamref40_Put_L7
    have e1 : IntKind.wrap .i64 (((L.length + (k + 1) : Nat) : Int) - 1) = ((L.length + k : Nat) : Int) := by rw [i64_id (by omega) (by omega)]; omega
    rw [e1, Int.toNat_natCast, Int.toNat_natCast]
    have s1 : L ++ (A' ++ [q]) ++ x :: R = (L ++ A' ++ [q]) ++ x :: R := by simp
    have s2 : L ++ (A' ++ [q]) ++ x :: R = (L ++ A') ++ q :: (x :: R) := by simp
    have l1 : (L ++ A' ++ [q]).length = L.length + (k + 1) := by simp; omega
    have l2 : (L ++ A').length = L.length + k := by simp; omega
    have g1 : (L ++ (A' ++ [q]) ++ x :: R).getD (L.length + (k + 1)) (0, 0) = x := by rw [s1, ← l1]; exact getD_at _ _ _ _
    have g2 : (L ++ (A' ++ [q]) ++ x :: R).getD (L.length + k) (0, 0) = q := by rw [s2, ← l2]; exact getD_at _ _ _ _
    rw [g1, g2]
    have t1 : (L ++ (A' ++ [q]) ++ x :: R).set (L.length + (k + 1)) q = (L ++ A') ++ q :: (q :: R) := by
      rw [s1, ← l1, set_at]; simp
    have t2 : ((L ++ A') ++ q :: (q :: R)).set (L.length + k) x = L ++ A' ++ x :: (q :: R) := by rw [← l2, set_at]
    rw [t1, t2]
    refine Ev.pos (by simp only [decide_eq_true_eq]; omega) (Ev.guard (by omega) (Ev.guard (by omega) (Ev.pos (by simp only [decide_eq_true_eq]; omega) (Ev.guard (by omega) (Ev.guard (by omega) (Ev.guard (by omega) (Ev.guard ?_ ?_)))))))
    · have : (L ++ A' ++ q :: (q :: R)).length = L.length + A'.length + R.length + 2 := by simp; omega
      omega
    have hl' : L.length + A'.length + (q :: R).length ≤ 1000 := by simp only [List.length_append, List.length_singleton, List.length_cons] at hl ⊢; omega
    refine (ih A' hk (q :: R) (fun p hp => hA p (List.mem_append_left _ hp)) (by rw [hk] at hl'; omega)).mono ?_
    rintro _ rfl
    simp
theorem refput_is (l : M) (hl : l.length ≤ 500) (ho : Once l) (hr : Rise l) (name v most : Int) : Ev (fun n => f60_broughamref40_Put n l name v most) (fun r => r = (if name ∈ l.map Prod.fst ∨ ¬ (l.length : Int) ≥ most then insP (name, v) (others l name) else l, putOk most l name)) := by
  have fin : Ev (fun n => (f58_broughamref40_Delete n l name).bind fun r217_0 =>
      if ([] : List (Int × Int)).length + r217_0.1.length ≤ maxLen ∧ (([] : List (Int × Int)).length + r217_0.1.length) * 16 ≤ 140737488355328 then
      if r217_0.1.length + [(name, v)].length ≤ maxLen ∧ (r217_0.1.length + [(name, v)].length) * 16 ≤ 140737488355328 then
      (f60_broughamref40_Put_L7 n (IntKind.wrap .i64 ((((r217_0.1 ++ [(name, v)]).length : Nat) : Int) - 1)) (r217_0.1 ++ [(name, v)])).bind fun w223 =>
      some (w223, true)
      else none
      else none) (fun r => r = (insP (name, v) (others l name), true)) := by
    refine Ev.bind (refdel_is l (by omega) ho name) ?_
    rintro _ rfl
    have hol := others_len ho name
    have hle : (others l name).length ≤ l.length := by omega
    dsimp only
    refine Ev.guard (by simp only [List.length_nil, maxLen]; omega) (Ev.guard (by simp only [List.length_singleton, maxLen]; omega) ?_)
    obtain ⟨L, A, q1, q2, q3, q4⟩ := insP_split (name, v) (others l name) (rise_others hr name)
    have hlen : (others l name).length = L.length + A.length := by rw [q1]; simp
    have e1 : IntKind.wrap .i64 ((((others l name ++ [(name, v)]).length : Nat) : Int) - 1) = ((L.length + A.length : Nat) : Int) := by
      simp only [List.length_append, List.length_singleton]
      rw [i64_id (by omega) (by omega)]; omega
    rw [e1]
    have := sink_loop L (name, v) q3 A [] q4 (by simp; omega)
    rw [← q1] at this
    refine Ev.bind this ?_
    rintro _ rfl
    refine Ev.some ?_
    rw [q2]; simp
  unfold f60_broughamref40_Put putOk
  refine Ev.bind (refget_is l (by omega) name) ?_
  rintro _ rfl
  by_cases h : name ∈ l.map Prod.fst
  · rw [if_pos (.inl h), decide_eq_true h]
    exact Ev.neg (by simp) fin
  · rw [decide_eq_false h]
    refine Ev.pos (by simp) ?_
    by_cases c : (l.length : Int) ≥ most
    · rw [if_neg (by simp only [not_or, Decidable.not_not]; exact ⟨h, c⟩), decide_eq_true c]
      exact Ev.pos (by simp) (Ev.some rfl)
    · rw [if_pos (.inr c), decide_eq_false c]
      exact Ev.neg (by simp) fin
end Go.Proofs.YtjoibacjpapncaaF40b
