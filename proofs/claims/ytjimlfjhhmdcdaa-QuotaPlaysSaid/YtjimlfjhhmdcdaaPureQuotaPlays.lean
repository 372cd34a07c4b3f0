/- QuotaPlays: owners have the document's bytes: of the functions that text F39 prints. Conditions: none. -/
import Derived.Test.YtjimlfjhhmdcdaaPureQuotaBounds
namespace Go.Proofs.YtjimlfjhhmdcdaaF39
open Go Zed
set_option linter.unusedVariables false
set_option linter.unusedSimpArgs false

theorem put_perm {m x : M} (h : m.Perm x) (i y : Int) : (put m i y).Perm (put x i y) := by
  unfold put others
  split
  · exact h.filter _
  · exact (h.filter _).append_right _
theorem others_len (x : M) (i : Int) : (others x i).length ≤ x.length := List.length_filter_le _ _
theorem put_len (x : M) (i y : Int) : (put x i y).length ≤ x.length + 1 := by
  have := others_len x i
  unfold put
  split
  · omega
  · simp only [List.length_append, List.length_singleton]; omega

theorem of_loop (id a e : Int) (x : M) (hx : x.length ≤ 1000) : ∀ (d : Nat) (i : Int) (hi : 0 ≤ i ∧ i + d = x.length),
    Ev (fun n => f32_broughamref39_Of_L2 n id i a e x) (fun w => match w with | .inl v => v = gt (x.drop i.toNat) id | .inr _ => gt (x.drop i.toNat) id = 0)
  | 0, i, hi => by
    apply Ev.succ
    unfold f32_broughamref39_Of_L2
    refine Ev.neg (by simp only [decide_eq_true_eq]; omega) (Ev.some ?_)
    show gt (x.drop i.toNat) id = 0
    rw [List.drop_eq_nil_of_le (by omega)]; rfl
  | d + 1, i, hi => by
    apply Ev.succ
    unfold f32_broughamref39_Of_L2
    refine Ev.pos (by simp only [decide_eq_true_eq]; omega) (Ev.guard (by omega) ?_)
    have e1 : x.drop i.toNat = x.getD i.toNat (0, 0) :: x.drop (i.toNat + 1) := drop_cons (by omega) _
    refine Ev.ite (fun h => Ev.guard (by omega) (Ev.some ?_)) (fun h => ?_)
    · simp only [beq_iff_eq] at h
      show _ = gt (x.drop i.toNat) id
      rw [e1, gt, if_pos h]
    · simp only [beq_iff_eq] at h
      rw [i64_id (by omega) (by omega)]
      refine (of_loop id a e x hx d (i + 1) (by omega)).mono fun w hw => ?_
      rw [e1, gt, if_neg h, show i.toNat + 1 = (i + 1).toNat by omega]
      exact hw
theorem of_is (id a e : Int) (x : M) (hx : x.length ≤ 1000) : Ev (fun n => f32_broughamref39_Of n a e x id) (fun v => v = gt x id) := by
  unfold f32_broughamref39_Of
  refine Ev.bind (of_loop id a e x hx x.length 0 (by omega)) ?_
  intro w hw
  cases w with
  | inl v => exact Ev.some hw
  | inr _ => exact Ev.some (Eq.symm hw)
theorem used_loop (a e : Int) (x : M) (hx : x.length ≤ 1000) (hv : ∀ p ∈ x, 0 ≤ p.2) (hs : sm x ≤ 1073741824) : ∀ (d : Nat) (i s : Int) (hi : 0 ≤ i ∧ i + d = x.length) (h0 : 0 ≤ s) (h1 : s + sm (x.drop i.toNat) = sm x),
    Ev (fun n => f36_broughamref39_Used_L3 n s i a e x) (fun w => w = sm x)
  | 0, i, s, hi, h0, h1 => by
    apply Ev.succ
    unfold f36_broughamref39_Used_L3
    refine Ev.neg (by simp only [decide_eq_true_eq]; omega) (Ev.some ?_)
    rw [List.drop_eq_nil_of_le (by omega)] at h1
    have : sm ([] : M) = 0 := rfl
    omega
  | d + 1, i, s, hi, h0, h1 => by
    apply Ev.succ
    unfold f36_broughamref39_Used_L3
    refine Ev.pos (by simp only [decide_eq_true_eq]; omega) (Ev.guard (by omega) ?_)
    have e1 : x.drop i.toNat = x.getD i.toNat (0, 0) :: x.drop (i.toNat + 1) := drop_cons (by omega) _
    have h2 : 0 ≤ (x.getD i.toNat (0, 0)).2 := hv _ (getD_mem (by omega) _)
    have h3 : 0 ≤ sm (x.drop (i.toNat + 1)) := sm_pos fun p hp => hv p (List.mem_of_mem_drop hp)
    rw [e1, sm] at h1
    rw [i64_id (e := i + 1) (by omega) (by omega), i64_id (by omega) (by omega)]
    exact used_loop a e x hx hv hs d (i + 1) _ (by omega) (by omega) (by rw [show (i + 1).toNat = i.toNat + 1 by omega]; omega)
theorem used_is (a e : Int) (x : M) (hx : x.length ≤ 1000) (hv : ∀ p ∈ x, 0 ≤ p.2) (hs : sm x ≤ 1073741824) : Ev (fun n => f36_broughamref39_Used n a e x) (fun w => w = sm x) := by
  unfold f36_broughamref39_Used
  refine Ev.bind (used_loop a e x hx hv hs x.length 0 0 (by omega) (by omega) (by simp)) ?_
  rintro _ rfl
  exact Ev.some rfl
theorem set_loop (id y a e : Int) (x : M) (hx : x.length ≤ 1000) : ∀ (d : Nat) (i : Int) (out : M) (hi : 0 ≤ i ∧ i + d = x.length) (ho : out.length ≤ i.toNat),
    Ev (fun n => f68_broughamref39_set_L3 n id y out i a e x 0 0) (fun w => w = (id, y, out ++ others (x.drop i.toNat) id, a, e, x, 0, 0))
  | 0, i, out, hi, ho => by
    apply Ev.succ
    unfold f68_broughamref39_set_L3
    refine Ev.neg (by simp only [decide_eq_true_eq]; omega) (Ev.some ?_)
    rw [List.drop_eq_nil_of_le (by omega)]
    simp [others]
  | d + 1, i, out, hi, ho => by
    apply Ev.succ
    unfold f68_broughamref39_set_L3
    refine Ev.pos (by simp only [decide_eq_true_eq]; omega) (Ev.guard (by omega) ?_)
    have e1 : x.drop i.toNat = x.getD i.toNat (0, 0) :: x.drop (i.toNat + 1) := drop_cons (by omega) _
    rw [i64_id (e := i + 1) (by omega) (by omega)]
    refine Ev.ite (fun h => Ev.guard (by omega) (Ev.guard (by simp only [List.length_singleton, maxLen]; omega) ?_)) (fun h => ?_)
    · simp only [bne_iff_ne, ne_eq] at h
      refine (set_loop id y a e x hx d (i + 1) (out ++ [x.getD i.toNat (0, 0)]) (by omega) (by simp only [List.length_append, List.length_singleton]; omega)).mono fun w hw => ?_
      rw [hw, e1, others_cons_ne h, show (i + 1).toNat = i.toNat + 1 by omega]
      simp
    · simp only [bne_iff_ne, ne_eq, Decidable.not_not] at h
      refine (set_loop id y a e x hx d (i + 1) out (by omega) (by omega)).mono fun w hw => ?_
      rw [hw, e1, others_cons_eq h, show (i + 1).toNat = i.toNat + 1 by omega]
theorem refset_is (id y a e : Int) (x : M) (hx : x.length ≤ 1000) (hy : 0 ≤ y) : Ev (fun n => f68_broughamref39_set n a e x id y) (fun w => w = (a, e, put x id y)) := by
  unfold f68_broughamref39_set
  refine Ev.bind (set_loop id y a e x hx x.length 0 [] (by omega) (by simp)) ?_
  rintro _ rfl
  have e0 : ([] : M) ++ others (x.drop (0 : Int).toNat) id = others x id := by simp
  have := others_len x id
  rw [e0]
  refine Ev.ite (fun h => ?_) (fun h => ?_)
  · simp only [decide_eq_true_eq] at h
    refine Ev.guard (by simp only [List.length_singleton, maxLen]; omega) (Ev.some ?_)
    unfold put; rw [if_neg (by omega)]
  · simp only [decide_eq_true_eq] at h
    refine Ev.some ?_
    unfold put; rw [if_pos (by omega)]

/-- A pool and the document's. -/
structure Rel (all each u : Int) (m x : M) : Prop where
  p : Pl all each u m
  q : m.Perm x
section
variable {all each u : Int} {m x : M}
theorem Rel.gt (h : Rel all each u m x) (i : Int) : Go.Proofs.YtjimlfjhhmdcdaaF39.gt x i = Go.Proofs.YtjimlfjhhmdcdaaF39.gt m i := (gt_perm h.q h.p.once i).symm
theorem Rel.sm (h : Rel all each u m x) : Go.Proofs.YtjimlfjhhmdcdaaF39.sm x = u := by rw [h.p.used, sm_perm h.q]
theorem Rel.pos (h : Rel all each u m x) : ∀ p ∈ x, 0 ≤ p.2 := fun p hp => (h.p.vals p (h.q.mem_iff.2 hp)).1
theorem Rel.put (h : Rel all each u m x) {u' : Int} (i y : Int) (hp : Pl all each u' (putM m i y)) : Rel all each u' (putM m i y) (Go.Proofs.YtjimlfjhhmdcdaaF39.put x i y) :=
  ⟨hp, (putM_perm h.p.once).trans (put_perm h.q i y)⟩
theorem take_ref (h : Rel all each u m x) (hx : x.length ≤ 500) (i n : Int) :
    Ev (fun k => f35_broughamref39_Take k all each x i n) (fun r => r = if takes all each u m i n then (true, all, each, put x i (gt m i + n)) else (false, all, each, x)) := by
  have h1 := h.p.gt i; have h2 := h.p.pos; have h3 := h.p.le; have h4 := h.p.ba; have h5 := h.p.be
  unfold f35_broughamref39_Take
  refine Ev.ite (fun c => Ev.some ?_) (fun c => ?_)
  · simp only [decide_eq_true_eq] at c
    rw [if_neg (by unfold takes; omega)]
  simp only [decide_eq_true_eq] at c
  refine Ev.bind (of_is i all each x (by omega)) ?_
  rintro _ rfl
  rw [h.gt i, i64_id (e := each - gt m i) (by omega) (by omega)]
  refine Ev.ite (fun c => Ev.some ?_) (fun c2 => ?_)
  · simp only [decide_eq_true_eq] at c
    rw [if_neg (by unfold takes; omega)]
  simp only [decide_eq_true_eq] at c2
  refine Ev.bind (used_is all each x (by omega) h.pos (by rw [h.sm]; omega)) ?_
  rintro _ rfl
  rw [h.sm, i64_id (e := all - u) (by omega) (by omega)]
  refine Ev.ite (fun c => Ev.some ?_) (fun c3 => ?_)
  · simp only [decide_eq_true_eq] at c
    rw [if_neg (by unfold takes; omega)]
  simp only [decide_eq_true_eq] at c3
  refine Ev.bind (of_is i all each x (by omega)) ?_
  rintro _ rfl
  rw [h.gt i, i64_id (e := gt m i + n) (by omega) (by omega)]
  refine Ev.bind (refset_is i (gt m i + n) all each x (by omega) (by omega)) ?_
  rintro _ rfl
  rw [if_pos (by unfold takes; omega)]
  exact Ev.some rfl
theorem give_ref (h : Rel all each u m x) (hx : x.length ≤ 500) (i n : Int) :
    Ev (fun k => f30_broughamref39_Give k all each x i n) (fun r => r = (amt m i n, all, each, put x i (gt m i - amt m i n))) := by
  have h1 := h.p.gt i; have h2 := h.p.pos; have h3 := h.p.le; have h4 := h.p.ba; have h5 := h.p.be
  have fin : ∀ (v : Int), v = amt m i n → Ev (fun k => (f68_broughamref39_set k all each x i (IntKind.wrap .i64 (gt m i - v))).bind fun r => some (v, r.1, r.2.1, r.2.2)) (fun r => r = (amt m i n, all, each, put x i (gt m i - amt m i n))) := by
    rintro _ rfl
    have ha := amt_in h.p i n
    rw [i64_id (e := gt m i - amt m i n) (by omega) (by omega)]
    refine Ev.bind (refset_is i (gt m i - amt m i n) all each x (by omega) (by omega)) ?_
    rintro _ rfl
    exact Ev.some rfl
  unfold f30_broughamref39_Give
  refine Ev.ite (fun c => ?_) (fun c => ?_)
  · simp only [decide_eq_true_eq] at c
    refine Ev.bind (of_is i all each x (by omega)) ?_
    rintro _ rfl
    rw [h.gt i]
    refine Ev.neg (by simp only [decide_eq_true_eq]; omega) ?_
    refine Ev.bind (of_is i all each x (by omega)) ?_
    rintro _ rfl
    rw [h.gt i]
    exact fin 0 (by unfold amt; rw [if_pos c, if_neg (by omega)])
  · simp only [decide_eq_true_eq] at c
    refine Ev.bind (of_is i all each x (by omega)) ?_
    rintro _ rfl
    rw [h.gt i]
    refine Ev.ite (fun c2 => ?_) (fun c2 => ?_)
    · simp only [decide_eq_true_eq] at c2
      refine Ev.bind (of_is i all each x (by omega)) ?_
      rintro _ rfl
      refine Ev.bind (of_is i all each x (by omega)) ?_
      rintro _ rfl
      rw [h.gt i]
      exact fin _ (by unfold amt; rw [if_neg c, if_pos (by omega)])
    · simp only [decide_eq_true_eq] at c2
      refine Ev.bind (of_is i all each x (by omega)) ?_
      rintro _ rfl
      rw [h.gt i]
      exact fin _ (by unfold amt; rw [if_neg c, if_neg (by omega)])
/-- Whether a move may be. -/
def moves (each : Int) (m : M) (i j n : Int) : Prop := 0 ≤ n ∧ n ≤ gt m i ∧ (i ≠ j → n ≤ each - gt m j)
theorem Rel.move (h : Rel all each u m x) {i j n : Int} (hm : moves each m i j n) (hne : i ≠ j) :
    Pl all each (u - n) (putM m i (Go.Proofs.YtjimlfjhhmdcdaaF39.gt m i - n)) ∧ Rel all each u (putM (putM m i (Go.Proofs.YtjimlfjhhmdcdaaF39.gt m i - n)) j (Go.Proofs.YtjimlfjhhmdcdaaF39.gt m j + n)) (Go.Proofs.YtjimlfjhhmdcdaaF39.put (Go.Proofs.YtjimlfjhhmdcdaaF39.put x i (Go.Proofs.YtjimlfjhhmdcdaaF39.gt m i - n)) j (Go.Proofs.YtjimlfjhhmdcdaaF39.gt m j + n)) := by
  obtain ⟨a, b, c⟩ := hm
  have c := c hne
  have h1 := h.p.gt i; have h2 := h.p.gt j; have h3 := h.p.le
  have hp := h.p.put (i := i) (y := Go.Proofs.YtjimlfjhhmdcdaaF39.gt m i - n) (by omega) (by omega)
  rw [show u - Go.Proofs.YtjimlfjhhmdcdaaF39.gt m i + (Go.Proofs.YtjimlfjhhmdcdaaF39.gt m i - n) = u - n by omega] at hp
  have hr := h.put i _ hp
  have hg := gt_putM h.p.once i (Go.Proofs.YtjimlfjhhmdcdaaF39.gt m i - n) j
  rw [if_neg hne] at hg
  have hp2 := hp.put (i := j) (y := Go.Proofs.YtjimlfjhhmdcdaaF39.gt m j + n) (by omega) (by rw [hg]; omega)
  rw [hg, show u - n - Go.Proofs.YtjimlfjhhmdcdaaF39.gt m j + (Go.Proofs.YtjimlfjhhmdcdaaF39.gt m j + n) = u by omega] at hp2
  exact ⟨hp, hr.put j _ hp2⟩
theorem move_is (h : Rel all each u m x) (i j n : Int) : (¬ moves each m i j n ∧ f34_quota_Pool_Move i j n all each u m = some (false, all, each, u, m)) ∨ (moves each m i j n ∧ i = j ∧ f34_quota_Pool_Move i j n all each u m = some (true, all, each, u, m)) ∨
    (moves each m i j n ∧ i ≠ j ∧ f34_quota_Pool_Move i j n all each u m = some (true, all, each, u, putM (putM m i (gt m i - n)) j (gt m j + n))) := by
  have h1 := h.p.gt i; have h2 := h.p.gt j; have h3 := h.p.le; have h4 := h.p.ba; have h5 := h.p.be; have h6 := h.p.pos
  by_cases hm : moves each m i j n
  · by_cases hne : i = j
    · refine .inr (.inl ⟨hm, hne, ?_⟩)
      obtain ⟨a, b, _⟩ := hm
      unfold f34_quota_Pool_Move
      simp only [decide_eq_true_eq, getM_is, bne_iff_ne, ne_eq]
      rw [if_neg (by omega), if_neg (by omega), if_neg (by omega), if_neg (by omega)]
    · refine .inr (.inr ⟨hm, hne, ?_⟩)
      have hM := h.move hm hne
      obtain ⟨a, b, c⟩ := hm
      have c := c hne
      unfold f34_quota_Pool_Move
      simp only [decide_eq_true_eq, getM_is, bne_iff_ne, ne_eq]
      rw [i64_id (e := each - gt m j) (by omega) (by omega), if_neg (by omega), if_neg (by omega), if_pos hne, if_neg (by omega), if_pos hne, i64_id (e := gt m i - n) (by omega) (by omega), set_is h.p i (gt m i - n) (by omega)]
      show (f66_quota_Pool_set j (IntKind.wrap .i64 (gt (putM m i (gt m i - n)) j + n)) all each (u - gt m i + (gt m i - n)) (putM m i (gt m i - n))).bind (fun r => some (true, r.1, r.2.1, r.2.2.1, r.2.2.2)) = _
      have hg := gt_putM h.p.once i (gt m i - n) j
      rw [if_neg hne] at hg
      rw [show u - gt m i + (gt m i - n) = u - n by omega, hg, i64_id (e := gt m j + n) (by omega) (by omega), set_is hM.1 j (gt m j + n) (by omega), hg]
      show some _ = some _
      rw [show u - n - gt m j + (gt m j + n) = u by omega]
  · refine .inl ⟨hm, ?_⟩
    unfold f34_quota_Pool_Move
    simp only [decide_eq_true_eq, getM_is, bne_iff_ne, ne_eq]
    rw [i64_id (e := each - gt m j) (by omega) (by omega)]
    unfold moves at hm
    by_cases a : n < 0
    · rw [if_pos a]
    · rw [if_neg a]
      by_cases b : n > gt m i
      · rw [if_pos b]
      · rw [if_neg b]
        by_cases hne : i = j
        · exact absurd ⟨by omega, by omega, fun q => absurd hne q⟩ hm
        · rw [if_pos hne]
          have : n > each - gt m j := by
            by_cases c : n > each - gt m j
            · exact c
            · exact absurd ⟨by omega, by omega, fun _ => by omega⟩ hm
          rw [if_pos this]
theorem move_ref (h : Rel all each u m x) (hx : x.length ≤ 500) (i j n : Int) :
    Ev (fun k => f33_broughamref39_Move k all each x i j n) (fun r => (¬ moves each m i j n ∧ r = (false, all, each, x)) ∨ (moves each m i j n ∧ i = j ∧ r = (true, all, each, x)) ∨
      (moves each m i j n ∧ i ≠ j ∧ r = (true, all, each, put (put x i (gt m i - n)) j (gt m j + n)))) := by
  have h1 := h.p.gt i; have h2 := h.p.gt j; have h3 := h.p.le; have h4 := h.p.ba; have h5 := h.p.be; have h6 := h.p.pos
  unfold f33_broughamref39_Move
  refine Ev.ite (fun c => Ev.some ?_) (fun c => ?_)
  · simp only [decide_eq_true_eq] at c
    exact .inl ⟨fun hm => by have := hm.1; omega, rfl⟩
  simp only [decide_eq_true_eq] at c
  refine Ev.bind (of_is i all each x (by omega)) ?_
  rintro _ rfl
  rw [h.gt i]
  refine Ev.ite (fun c2 => Ev.some ?_) (fun c2 => ?_)
  · simp only [decide_eq_true_eq] at c2
    exact .inl ⟨fun hm => by have := hm.2.1; omega, rfl⟩
  simp only [decide_eq_true_eq] at c2
  refine Ev.ite (fun c3 => Ev.some ?_) (fun c3 => ?_)
  · simp only [beq_iff_eq] at c3
    exact .inr (.inl ⟨⟨by omega, by omega, fun q => absurd c3 q⟩, c3, rfl⟩)
  simp only [beq_iff_eq] at c3
  refine Ev.bind (of_is j all each x (by omega)) ?_
  rintro _ rfl
  rw [h.gt j, i64_id (e := each - gt m j) (by omega) (by omega)]
  refine Ev.ite (fun c4 => Ev.some ?_) (fun c4 => ?_)
  · simp only [decide_eq_true_eq] at c4
    exact .inl ⟨fun hm => by have := hm.2.2 c3; omega, rfl⟩
  simp only [decide_eq_true_eq] at c4
  have hm : moves each m i j n := ⟨by omega, by omega, fun _ => by omega⟩
  refine Ev.bind (of_is i all each x (by omega)) ?_
  rintro _ rfl
  rw [h.gt i, i64_id (e := gt m i - n) (by omega) (by omega)]
  refine Ev.bind (refset_is i (gt m i - n) all each x (by omega) (by omega)) ?_
  rintro _ rfl
  have hl := put_len x i (gt m i - n)
  refine Ev.bind (of_is j all each (put x i (gt m i - n)) (by omega)) ?_
  rintro _ rfl
  rw [gt_put, if_neg c3, h.gt j, i64_id (e := gt m j + n) (by omega) (by omega)]
  refine Ev.bind (refset_is j (gt m j + n) all each (put x i (gt m i - n)) (by omega) (by omega)) ?_
  rintro _ rfl
  exact Ev.some (.inr (.inr ⟨hm, c3, rfl⟩))
end

/-- What a step leaves. -/
def Left (l : List (Int × Int × Int × Int)) (i all each : Int) (w : Bool ⊕ ((List (Int × Int × Int × Int)) × Int × Int × Int × Int × Int × Int × (List (Int × Int)) × List (Int × Int))) : Prop :=
  ∃ u m x, w = .inr (l, i + 1, all, each, u, all, each, x, m) ∧ Rel all each u m x ∧ (x.length : Int) ≤ 2 * (i + 1)
theorem Left.redo {l : List (Int × Int × Int × Int)} {i all each : Int} {f : Nat → Option (Bool ⊕ ((List (Int × Int × Int × Int)) × Int × Int × Int × Int × Int × Int × (List (Int × Int)) × List (Int × Int)))} (h : Ev f (Left l i all each)) :
    Ev (fun n => (f n).bind fun w => match w with
      | .inl e => some (.inl e)
      | .inr e => some (.inr ((e.1, e.2.1, e.2.2.1, e.2.2.2.1, e.2.2.2.2.1, e.2.2.2.2.2.1, e.2.2.2.2.2.2.1, e.2.2.2.2.2.2.2.1, e.2.2.2.2.2.2.2.2)))) (Left l i all each) := by
  refine Ev.bind h ?_
  rintro _ ⟨u, m, x, rfl, h1, h2⟩
  exact Ev.some ⟨u, m, x, rfl, h1, h2⟩
/-- The fair share that the law asks for. -/
def fairAsked (all each b : Int) : Int := if b > 0 then fairOf all each b else 0
theorem asks (l : List (Int × Int × Int × Int)) (all each u : Int) (m x : M) (h : Rel all each u m x) (i : Int) (hi : 0 ≤ i ∧ i < 100) (hx : (x.length : Int) ≤ 2 * (i + 1)) (a b c d : Int) :
    Ev (fun n => f6_broughamlaw39_QuotaPlays_L32 n l i (fairAsked all each c) all each u all each x a b c d m) (Left l i all each) := by
  apply Ev.succ
  unfold f6_broughamlaw39_QuotaPlays_L32 f15_quota_Pool_Of f16_quota_Pool_Used f37_quota_Pool_Owners
  refine Ev.bind (Ev.of rfl rfl) ?_
  rintro _ rfl
  refine Ev.bind (of_is b all each x (by omega)) ?_
  rintro _ rfl
  refine Ev.neg (by simp only [bne_iff_ne, ne_eq, Decidable.not_not, getM_is, h.gt]) ?_
  refine Ev.bind (Ev.of rfl rfl) ?_
  rintro _ rfl
  refine Ev.bind (of_is c all each x (by omega)) ?_
  rintro _ rfl
  refine Ev.neg (by simp only [bne_iff_ne, ne_eq, Decidable.not_not, getM_is, h.gt]) ?_
  refine Ev.bind (Ev.of rfl rfl) ?_
  rintro _ rfl
  have h3 := h.p.le; have h4 := h.p.ba
  refine Ev.bind (used_is all each x (by omega) h.pos (by rw [h.sm]; omega)) ?_
  rintro _ rfl
  refine Ev.neg (by simp only [bne_iff_ne, ne_eq, Decidable.not_not, h.sm]) ?_
  refine Ev.bind (Ev.of rfl rfl) ?_
  rintro _ rfl
  refine Ev.neg (by simp only [bne_iff_ne, ne_eq, Decidable.not_not, h.q.length_eq]) ?_
  have hf : f18_quota_Pool_Fair c all each u m = some (fairAsked all each c, all, each, u, m) := by
    unfold fairAsked
    by_cases hc : c > 0
    · rw [if_pos hc]; exact fair_is h.p (by omega)
    · rw [if_neg hc]; unfold f18_quota_Pool_Fair; rw [if_pos (by simp only [decide_eq_true_eq]; omega)]
  refine Ev.bind (Ev.of hf rfl) ?_
  rintro _ rfl
  refine Ev.neg (by simp only [bne_iff_ne, ne_eq, Decidable.not_not]) ?_
  rw [i64_id (by omega) (by omega)]
  exact Ev.some ⟨u, m, x, rfl, h, hx⟩
theorem behind (l : List (Int × Int × Int × Int)) (all each u : Int) (m x : M) (h : Rel all each u m x) (i : Int) (hi : 0 ≤ i ∧ i < 100) (hx : (x.length : Int) ≤ 2 * (i + 1)) (a b c d : Int) :
    Ev (fun n => f6_broughamlaw39_QuotaPlays_L27 n l i all each u all each x a b c d m) (Left l i all each) := by
  have h4 := h.p.ba
  have key := asks l all each u m x h i hi hx a b c d
  apply Ev.succ
  unfold f6_broughamlaw39_QuotaPlays_L27
  refine Ev.ite (fun hc => ?_) (fun hc => ?_)
  · simp only [decide_eq_true_eq] at hc
    have h6 : 0 ≤ all / c := Int.ediv_nonneg h4.1 (by omega)
    have h7 : all / c ≤ all := Int.ediv_le_self _ h4.1
    refine Ev.guard (by omega) ?_
    rw [tdiv_e h4.1, i64_id (e := all / c) (by omega) (by omega)]
    refine Ev.ite (fun hd => ?_) (fun hd => ?_)
    · simp only [decide_eq_true_eq] at hd
      have e1 : fairAsked all each c = each := by unfold fairAsked fairOf; rw [if_pos hc, if_neg (by omega)]
      rw [e1] at key
      exact Left.redo key
    · simp only [decide_eq_true_eq] at hd
      have e1 : fairAsked all each c = all / c := by
        unfold fairAsked fairOf; rw [if_pos hc]; split <;> omega
      rw [e1] at key
      exact Left.redo key
  · simp only [decide_eq_true_eq] at hc
    have e1 : fairAsked all each c = 0 := by unfold fairAsked; rw [if_neg hc]
    rw [e1] at key
    exact Left.redo key
theorem moved (l : List (Int × Int × Int × Int)) (all each u : Int) (m x : M) (h : Rel all each u m x) (i : Int) (hi : 0 ≤ i ∧ i < 100) (hx : (x.length : Int) ≤ 2 * i) (a b c d : Int) :
    Ev (fun n => f6_broughamlaw39_QuotaPlays_L24 n l i all each u all each x a b c d m) (Left l i all each) := by
  apply Ev.succ
  unfold f6_broughamlaw39_QuotaPlays_L24
  refine Ev.bind (move_ref h (by omega) b c d) ?_
  intro r hr
  rcases move_is h b c d with ⟨q1, q2⟩ | ⟨q1, q2, q3⟩ | ⟨q1, q2, q3⟩
  · rcases hr with ⟨p1, rfl⟩ | ⟨p1, _, _⟩ | ⟨p1, _, _⟩
    · refine Ev.bind (Ev.of q2 rfl) ?_
      rintro _ rfl
      refine Ev.neg (by simp) ?_
      exact Left.redo (behind l all each u m x h i hi (by omega) a b c d)
    · exact absurd p1 q1
    · exact absurd p1 q1
  · rcases hr with ⟨p1, _⟩ | ⟨p1, _, rfl⟩ | ⟨p1, p2, _⟩
    · exact absurd q1 p1
    · refine Ev.bind (Ev.of q3 rfl) ?_
      rintro _ rfl
      refine Ev.neg (by simp) ?_
      exact Left.redo (behind l all each u m x h i hi (by omega) a b c d)
    · exact absurd q2 p2
  · rcases hr with ⟨p1, _⟩ | ⟨p1, p2, _⟩ | ⟨p1, p2, rfl⟩
    · exact absurd q1 p1
    · exact absurd p2 q2
    · refine Ev.bind (Ev.of q3 rfl) ?_
      rintro _ rfl
      refine Ev.neg (by simp) ?_
      have l1 := put_len x b (gt m b - d)
      have l2 := put_len (put x b (gt m b - d)) c (gt m c + d)
      exact Left.redo (behind l all each u _ _ (h.move q1 q2).2 i hi (by omega) a b c d)

theorem playLoop (l : List (Int × Int × Int × Int)) (hl : l.length ≤ 100) (all each : Int) : ∀ (d : Nat) (i : Int) (hi : 0 ≤ i ∧ i + d = l.length) (u : Int) (m x : M) (h : Rel all each u m x) (hx : (x.length : Int) ≤ 2 * i),
    Ev (fun n => f6_broughamlaw39_QuotaPlays_L6 n l i all each u all each x m) (fun r => r = true)
  | 0, i, hi, u, m, x, h, hx => by
    apply Ev.succ
    unfold f6_broughamlaw39_QuotaPlays_L6
    refine Ev.neg (by simp only [decide_eq_true_eq]; omega) ?_
    refine Ev.bind (P := fun r => r = true) ?_ ?_
    · apply Ev.succ
      unfold f6_broughamlaw39_QuotaPlays_L34
      refine Ev.bind (Ev.of quota_alive rfl) ?_
      rintro _ rfl
      exact Ev.some rfl
    · rintro _ rfl
      exact Ev.some rfl
  | d + 1, i, hi, u, m, x, h, hx => by
    have rest : ∀ {f : Nat → Option (Bool ⊕ ((List (Int × Int × Int × Int)) × Int × Int × Int × Int × Int × Int × (List (Int × Int)) × List (Int × Int)))}, Ev f (Left l i all each) → Ev (fun n => (f n).bind fun w => match w with
      | .inl e => some e
      | .inr e => f6_broughamlaw39_QuotaPlays_L6 n e.1 e.2.1 e.2.2.1 e.2.2.2.1 e.2.2.2.2.1 e.2.2.2.2.2.1 e.2.2.2.2.2.2.1 e.2.2.2.2.2.2.2.1 e.2.2.2.2.2.2.2.2) (fun r => r = true) := by
      intro f hf
      refine Ev.bind hf ?_
      rintro _ ⟨u', m', x', rfl, h', hx'⟩
      exact playLoop l hl all each d (i + 1) (by omega) u' m' x' h' hx'
    apply Ev.succ
    unfold f6_broughamlaw39_QuotaPlays_L6
    refine Ev.pos (by simp only [decide_eq_true_eq]; omega) (Ev.guard (by omega) ?_)
    generalize Int.tmod (IntKind.wrap .i64 (Int.tmod ((l.getD i.toNat (0, (0, (0, 0)))).1) 7 + 7)) 7 = k
    generalize (l.getD i.toNat (0, (0, (0, 0)))).1 = oa
    generalize ((l.getD i.toNat (0, (0, (0, 0)))).2).1 = ob
    generalize (((l.getD i.toNat (0, (0, (0, 0)))).2).2).1 = oc
    generalize ((((l.getD i.toNat (0, (0, (0, 0)))).2).2).2) = od
    have hT : Ev (fun n => (f35_broughamref39_Take n all each x ob od).bind fun r401_0 =>
              (f14_quota_Pool_Take ob od all each u m).bind fun r408_0 =>
              if (!(r408_0.1 == r401_0.1)) = true then
                some (false)
              else
                (f6_broughamlaw39_QuotaPlays_L27 n l i r408_0.2.1 r408_0.2.2.1 r408_0.2.2.2.1 r401_0.2.1 r401_0.2.2.1 r401_0.2.2.2 oa ob oc od r408_0.2.2.2.2).bind fun w => match w with
      | .inl e => some e
      | .inr e => f6_broughamlaw39_QuotaPlays_L6 n e.1 e.2.1 e.2.2.1 e.2.2.2.1 e.2.2.2.2.1 e.2.2.2.2.2.1 e.2.2.2.2.2.2.1 e.2.2.2.2.2.2.2.1 e.2.2.2.2.2.2.2.2) (fun r => r = true) := by
      refine Ev.bind (take_ref h (by omega) ob od) ?_
      intro r hr
      refine Ev.bind (Ev.of (take_is h.p ob od) rfl) ?_
      rintro _ rfl
      by_cases ht : takes all each u m ob od
      · rw [if_pos ht] at hr ⊢
        subst hr
        refine Ev.neg (by simp) ?_
        have l1 := put_len x ob (gt m ob + od)
        exact rest (behind l all each _ _ _ (h.put ob _ (h.p.take ht)) i (by omega) (by omega) oa ob oc od)
      · rw [if_neg ht] at hr ⊢
        subst hr
        refine Ev.neg (by simp) ?_
        exact rest (behind l all each _ _ _ h i (by omega) (by omega) oa ob oc od)
    refine Ev.ite (fun _ => ?_) (fun _ => ?_)
    · refine Ev.bind (give_ref h (by omega) ob od) ?_
      rintro _ rfl
      refine Ev.bind (Ev.of (give_is h.p ob od) rfl) ?_
      rintro _ rfl
      refine Ev.neg (by simp) ?_
      have l1 := put_len x ob (gt m ob - amt m ob od)
      exact rest (behind l all each _ _ _ (h.put ob _ (h.p.give ob od)) i (by omega) (by omega) oa ob oc od)
    refine Ev.ite (fun _ => ?_) (fun _ => ?_)
    · refine Ev.bind (of_is ob all each x (by omega)) ?_
      rintro _ rfl
      refine Ev.bind (give_ref h (by omega) ob (gt x ob)) ?_
      rintro _ rfl
      refine Ev.bind (Ev.of (drop_is h.p ob) rfl) ?_
      rintro _ rfl
      have e1 : amt m ob (gt x ob) = gt m ob := by rw [h.gt, amt_all h.p]
      rw [e1, show gt m ob - gt m ob = 0 by omega]
      refine Ev.neg (by simp) ?_
      have l1 := put_len x ob 0
      exact rest (behind l all each _ _ _ (h.put ob _ (h.p.drop ob)) i (by omega) (by omega) oa ob oc od)
    have hM := rest (moved l all each u m x h i (by omega) hx oa ob oc od)
    refine Ev.ite (fun _ => ?_) (fun _ => ?_)
    · refine Ev.ite (fun _ => ?_) (fun _ => ?_)
      · exact hM
      · exact hT
    · refine Ev.ite (fun _ => ?_) (fun _ => ?_)
      · exact hM
      · exact hT

/-- From 0 to 2^30. -/
def cl (n : Int) : Int := if n < 0 then 0 else if n > 1073741824 then 1073741824 else n
theorem cl_in (n : Int) : 0 ≤ cl n ∧ cl n ≤ 1073741824 := by unfold cl; split; omega; split <;> omega
theorem within_is (n : Int) : f67_broughamref39_within n = some (cl n) := by
  unfold f67_broughamref39_within cl
  simp only [decide_eq_true_eq]
  split
  · rfl
  · split <;> rfl
theorem cl_is (a : Int) : (if 1073741824 < (if a < 0 then 0 else a) then 1073741824 else (if a < 0 then 0 else a)) = cl a := by
  unfold cl
  by_cases h : a < 0
  · simp only [if_pos h]; rfl
  · simp only [if_neg h]
theorem new_cl (a e : Int) : f13_quota_New a e = some (cl a, cl e, 0, []) := by unfold f13_quota_New; rw [cl_is, cl_is]
theorem refnew_is (a e : Int) : f29_broughamref39_New a e = some (cl a, cl e) := by unfold f29_broughamref39_New; rw [within_is, within_is]; rfl

theorem QuotaPlays (all : Int) (h0 : K.ok (.int .i64) all) (each : Int) (h1 : K.ok (.int .i64) each) (l : List (Int × Int × Int × Int)) (h2 : K.ok (.slice (.pair (.int .i64) (.pair (.int .i64) (.pair (.int .i64) (.int .i64))))) l) : ∃ n, f6_broughamlaw39_QuotaPlays n all each l = some true := by
  apply Ev.true
  unfold f6_broughamlaw39_QuotaPlays
  refine Ev.bind (P := fun r => r = true) ?_ (by rintro _ rfl; exact Ev.some rfl)
  apply Ev.succ
  unfold f6_broughamlaw39_QuotaPlays_L1
  refine Ev.bind (Ev.of (new_cl all each) rfl) ?_
  rintro _ rfl
  refine Ev.bind (P := fun r => r = true) ?_ (by rintro _ rfl; exact Ev.some rfl)
  apply Ev.succ
  unfold f6_broughamlaw39_QuotaPlays_L2
  refine Ev.ite (fun c => ?_) (fun c => ?_)
  · refine Ev.bind (P := fun r => r = true) ?_ (by rintro _ rfl; exact Ev.some rfl)
    apply Ev.succ
    unfold f6_broughamlaw39_QuotaPlays_L3
    exact Ev.some rfl
  simp only [decide_eq_true_eq] at c
  refine Ev.bind (P := fun r => r = true) ?_ (by rintro _ rfl; exact Ev.some rfl)
  apply Ev.succ
  unfold f6_broughamlaw39_QuotaPlays_L4
  refine Ev.bind (Ev.of (refnew_is all each) rfl) ?_
  rintro _ rfl
  refine Ev.bind (P := fun r => r = true) ?_ (by rintro _ rfl; exact Ev.some rfl)
  apply Ev.succ
  unfold f6_broughamlaw39_QuotaPlays_L5
  refine Ev.bind (P := fun r => r = true) ?_ (by rintro _ rfl; exact Ev.some rfl)
  exact playLoop l (by omega) (cl all) (cl each) l.length 0 (by omega) 0 [] [] ⟨Pl.new (cl_in all) (cl_in each), List.Perm.refl _⟩ (by simp)
end Go.Proofs.YtjimlfjhhmdcdaaF39
