/- QuotaBounds: what is used is what all owners have: of the functions that text F39 prints. Conditions: none. -/
import Derived.Test.YtjimlfjhhmdcdaaF39
import Derived.Test.YtjimlfjhhmdcdaaPureMaps
namespace Go.Proofs.YtjimlfjhhmdcdaaF39
open Go Zed
set_option linter.unusedVariables false
set_option linter.unusedSimpArgs false

theorem quota_alive : f19_broughamlaw39_alive = some true := by decide +kernel

/-- A pool: what is used is the sum. -/
structure Pl (all each u : Int) (m : M) : Prop where
  once : Once m
  used : u = sm m
  vals : ∀ p ∈ m, 0 ≤ p.2 ∧ p.2 ≤ each
  le : u ≤ all
  ba : 0 ≤ all ∧ all ≤ 1073741824
  be : 0 ≤ each ∧ each ≤ 1073741824
theorem gt_in {e : Int} (he : 0 ≤ e) : ∀ {m : M}, (∀ p ∈ m, 0 ≤ p.2 ∧ p.2 ≤ e) → ∀ i, 0 ≤ gt m i ∧ gt m i ≤ e
  | [], _, i => by simp [gt]; exact he
  | p :: l, h, i => by
    rw [gt]; split
    · exact h p List.mem_cons_self
    · exact gt_in he (fun q hq => h q (List.mem_cons_of_mem _ hq)) i
theorem sm_pos : ∀ {m : M}, (∀ p ∈ m, 0 ≤ p.2) → 0 ≤ sm m
  | [], _ => by simp [sm]
  | p :: l, h => by
    have := h p List.mem_cons_self
    have := sm_pos (fun q hq => h q (List.mem_cons_of_mem _ hq))
    rw [sm]; omega
section
variable {all each u : Int} {m : M}
theorem Pl.gt (h : Pl all each u m) (i : Int) : 0 ≤ gt m i ∧ gt m i ≤ each := gt_in h.be.1 h.vals i
theorem Pl.pos (h : Pl all each u m) : 0 ≤ u := by rw [h.used]; exact sm_pos fun p hp => (h.vals p hp).1
theorem Pl.gt_le (h : Pl all each u m) (i : Int) : Go.Proofs.YtjimlfjhhmdcdaaF39.gt m i ≤ u := by
  have h1 := sm_others (i := i) h.once
  have h2 : 0 ≤ sm (others m i) := sm_pos fun p hp => (h.vals p (List.mem_filter.1 hp).1).1
  have := h.used
  omega
theorem Pl.put (h : Pl all each u m) {i y : Int} (hy : 0 ≤ y ∧ y ≤ each) (hu : u - Go.Proofs.YtjimlfjhhmdcdaaF39.gt m i + y ≤ all) : Pl all each (u - Go.Proofs.YtjimlfjhhmdcdaaF39.gt m i + y) (putM m i y) where
  once := once_putM h.once
  used := by rw [sm_putM h.once, h.used]
  vals := fun p hp => by
    have hp := (putM_perm h.once).mem_iff.1 hp
    unfold Go.Proofs.YtjimlfjhhmdcdaaF39.put at hp
    split at hp
    · exact h.vals p (List.mem_filter.1 hp).1
    · rcases List.mem_append.1 hp with hp | hp
      · exact h.vals p (List.mem_filter.1 hp).1
      · simp only [List.mem_singleton] at hp; subst hp; exact hy
  le := hu
  ba := h.ba
  be := h.be
theorem set_is (h : Pl all each u m) (i n : Int) (hn : 0 ≤ n ∧ n ≤ each) : f66_quota_Pool_set i n all each u m = some (all, each, u - gt m i + n, putM m i n) := by
  have h1 := h.gt i; have h2 := h.pos; have h3 := h.le; have h4 := h.ba; have h5 := h.be
  unfold f66_quota_Pool_set putM
  rw [getM_is, i64_id (e := n - gt m i) (by omega) (by omega), i64_id (e := u + (n - gt m i)) (by omega) (by omega), show u + (n - gt m i) = u - gt m i + n by omega]
  simp only [beq_iff_eq]
  split <;> rfl
def takes (all each u : Int) (m : M) (i n : Int) : Prop := 0 ≤ n ∧ n ≤ each - gt m i ∧ n ≤ all - u
instance (all each u : Int) (m : M) (i n : Int) : Decidable (takes all each u m i n) := by unfold takes; infer_instance
theorem take_is (h : Pl all each u m) (i n : Int) : f14_quota_Pool_Take i n all each u m = some (if takes all each u m i n then (true, all, each, u + n, putM m i (gt m i + n)) else (false, all, each, u, m)) := by
  have h1 := h.gt i; have h2 := h.pos; have h3 := h.le; have h4 := h.ba; have h5 := h.be
  unfold f14_quota_Pool_Take
  rw [getM_is, i64_id (e := each - gt m i) (by omega) (by omega), i64_id (e := all - u) (by omega) (by omega)]
  simp only [decide_eq_true_eq]
  by_cases ht : takes all each u m i n
  · rw [if_pos ht]
    obtain ⟨a, b, c⟩ := ht
    rw [if_neg (by omega), if_neg (by omega), if_neg (by omega), i64_id (e := gt m i + n) (by omega) (by omega), set_is h i (gt m i + n) (by omega)]
    show some _ = some _
    rw [show u - gt m i + (gt m i + n) = u + n by omega]
  · rw [if_neg ht]
    unfold takes at ht
    split
    · rfl
    · split
      · rfl
      · split
        · rfl
        · omega
theorem Pl.take (h : Pl all each u m) {i n : Int} (ht : takes all each u m i n) : Pl all each (u + n) (putM m i (Go.Proofs.YtjimlfjhhmdcdaaF39.gt m i + n)) := by
  obtain ⟨a, b, c⟩ := ht
  have h1 := h.gt i
  have := h.put (i := i) (y := Go.Proofs.YtjimlfjhhmdcdaaF39.gt m i + n) (by omega) (by omega)
  rwa [show u - Go.Proofs.YtjimlfjhhmdcdaaF39.gt m i + (Go.Proofs.YtjimlfjhhmdcdaaF39.gt m i + n) = u + n by omega] at this
/-- So many as are there. -/
def amt (m : M) (i n : Int) : Int := if gt m i < (if n < 0 then 0 else n) then gt m i else (if n < 0 then 0 else n)
theorem amt_in (h : Pl all each u m) (i n : Int) : 0 ≤ amt m i n ∧ amt m i n ≤ gt m i := by
  have h1 := h.gt i
  unfold amt
  split
  · omega
  · split <;> omega
theorem give_is (h : Pl all each u m) (i n : Int) : f31_quota_Pool_Give i n all each u m = some (amt m i n, all, each, u - amt m i n, putM m i (gt m i - amt m i n)) := by
  have h1 := h.gt i; have h2 := amt_in h i n; have h5 := h.be
  unfold f31_quota_Pool_Give
  rw [getM_is]
  show (f66_quota_Pool_set i (IntKind.wrap .i64 (gt m i - amt m i n)) all each u m).bind (fun r => some (amt m i n, r.1, r.2.1, r.2.2.1, r.2.2.2)) = _
  rw [i64_id (e := gt m i - amt m i n) (by omega) (by omega), set_is h i (gt m i - amt m i n) (by omega)]
  show some _ = some _
  rw [show u - gt m i + (gt m i - amt m i n) = u - amt m i n by omega]
theorem Pl.give (h : Pl all each u m) (i n : Int) : Pl all each (u - amt m i n) (putM m i (Go.Proofs.YtjimlfjhhmdcdaaF39.gt m i - amt m i n)) := by
  have h1 := h.gt i; have h2 := amt_in h i n; have h3 := h.le; have h4 := h.gt_le i
  have := h.put (i := i) (y := Go.Proofs.YtjimlfjhhmdcdaaF39.gt m i - amt m i n) (by omega) (by omega)
  rwa [show u - Go.Proofs.YtjimlfjhhmdcdaaF39.gt m i + (Go.Proofs.YtjimlfjhhmdcdaaF39.gt m i - amt m i n) = u - amt m i n by omega] at this
theorem amt_all (h : Pl all each u m) (i : Int) : amt m i (gt m i) = gt m i := by
  have h1 := h.gt i
  unfold amt
  rw [if_neg (show ¬ gt m i < 0 by omega), if_neg (by omega)]
theorem drop_is (h : Pl all each u m) (i : Int) : f17_quota_Pool_Drop i all each u m = some (gt m i, all, each, u - gt m i, putM m i 0) := by
  unfold f17_quota_Pool_Drop
  rw [getM_is, give_is h, amt_all h]
  show some _ = some _
  rw [show gt m i - gt m i = 0 by omega]
theorem Pl.drop (h : Pl all each u m) (i : Int) : Pl all each (u - Go.Proofs.YtjimlfjhhmdcdaaF39.gt m i) (putM m i 0) := by
  have := h.give i (Go.Proofs.YtjimlfjhhmdcdaaF39.gt m i)
  rw [amt_all h] at this
  rwa [show Go.Proofs.YtjimlfjhhmdcdaaF39.gt m i - Go.Proofs.YtjimlfjhhmdcdaaF39.gt m i = 0 by omega] at this
/-- The fair share. -/
def fairOf (all each k : Int) : Int := if all / k < each then all / k else each
theorem fair_is (h : Pl all each u m) {k : Int} (hk : 1 ≤ k) : f18_quota_Pool_Fair k all each u m = some (fairOf all each k, all, each, u, m) := by
  have h4 := h.ba
  have h6 : 0 ≤ all / k := Int.ediv_nonneg h4.1 (by omega)
  have h7 : all / k ≤ all := Int.ediv_le_self _ h4.1
  unfold f18_quota_Pool_Fair fairOf
  simp only [decide_eq_true_eq]
  rw [if_neg (by omega), if_pos (by omega), tdiv_e h4.1, i64_id (e := all / k) (by omega) (by omega)]
theorem new_is {a e : Int} (ha : 0 ≤ a ∧ a ≤ 1073741824) (he : 0 ≤ e ∧ e ≤ 1073741824) : f13_quota_New a e = some (a, e, 0, []) := by
  unfold f13_quota_New
  rw [if_neg (show ¬ a < 0 by omega), if_neg (show ¬ e < 0 by omega), if_neg (by omega), if_neg (by omega)]
theorem Pl.new (ha : 0 ≤ all ∧ all ≤ 1073741824) (he : 0 ≤ each ∧ each ≤ 1073741824) : Pl all each 0 [] where
  once := List.nodup_nil
  used := rfl
  vals := fun p hp => by cases hp
  le := ha.1
  ba := ha
  be := he
theorem upto_in (h : Pl all each u m) : ∀ k : Nat, 0 ≤ upto m k ∧ upto m k ≤ k * each
  | 0 => by simp [upto]
  | k + 1 => by
    have h1 := upto_in h k; have h2 := h.gt k
    rw [upto, Int.natCast_add, Int.add_mul]; omega
end

theorem sumLoop {all each u : Int} {m : M} (h : Pl all each u m) (i : Int) (x0 : Int) (hx : 1 ≤ x0 ∧ x0 ≤ 40) (l : List (Int × Int × Int × Int)) (be : each ≤ 1000000) : ∀ (d : Nat) (k : Nat), (k : Int) + d = x0 →
    Ev (fun n => f3_broughamlaw39_QuotaBounds_L12 n all each i (upto m k) k x0 l all each u m) (fun w => w = .inr (all, each, i, upto m x0.toNat, x0, l, all, each, u, m))
  | 0, k, hk => by
    apply Ev.succ
    unfold f3_broughamlaw39_QuotaBounds_L12
    refine Ev.neg (by simp only [decide_eq_true_eq]; omega) (Ev.some ?_)
    rw [show x0.toNat = k by omega]
  | d + 1, k, hk => by
    have h1 := h.gt k
    have h2 := upto_in h k
    have h3 : (k : Int) * each ≤ 40 * 1000000 := Int.mul_le_mul (by omega) be h.be.1 (by omega)
    apply Ev.succ
    unfold f3_broughamlaw39_QuotaBounds_L12 f15_quota_Pool_Of
    refine Ev.pos (by simp only [decide_eq_true_eq]; omega) ?_
    refine Ev.bind (Ev.of rfl rfl) ?_
    rintro _ rfl
    refine Ev.neg (by simp only [decide_eq_true_eq, getM_is]; omega) ?_
    refine Ev.bind (Ev.of rfl rfl) ?_
    rintro _ rfl
    refine Ev.neg (by simp only [decide_eq_true_eq, getM_is]; omega) ?_
    refine Ev.bind (Ev.of rfl rfl) ?_
    rintro _ rfl
    have e1 : IntKind.wrap .i64 (upto m k + getM m k) = upto m (k + 1) := by rw [getM_is, i64_id (by omega) (by omega), upto]
    have e2 : IntKind.wrap .i64 ((k : Int) + 1) = ((k + 1 : Nat) : Int) := by rw [i64_id (by omega) (by omega)]; rfl
    show Ev (fun n => f3_broughamlaw39_QuotaBounds_L12 n all each i (IntKind.wrap .i64 (upto m k + getM m k)) (IntKind.wrap .i64 ((k : Int) + 1)) x0 l all each u m) _
    rw [e1, e2]
    exact sumLoop h i x0 hx l be d (k + 1) (by omega)

theorem owner_in (a x : Int) (hx : 1 ≤ x ∧ x ≤ 40) : 0 ≤ Int.tmod (IntKind.wrap .i64 (Int.tmod a x + x)) x ∧ Int.tmod (IntKind.wrap .i64 (Int.tmod a x + x)) x < x := by
  have h1 := Int.tmod_lt_of_pos a (b := x) (by omega)
  have h2 := Int.lt_tmod_of_pos a (b := x) (by omega)
  rw [i64_id (by omega) (by omega)]
  exact ⟨Int.tmod_nonneg _ (by omega), Int.tmod_lt_of_pos _ (by omega)⟩

theorem takeLoop (all each x0 : Int) (be : each ≤ 1000000) (hx : 1 ≤ x0 ∧ x0 ≤ 40) (l : List (Int × Int × Int × Int)) (hl : l.length ≤ 100) : ∀ (d : Nat) (i : Int) (hi : 0 ≤ i ∧ i + d = l.length) (u : Int) (m : M) (h : Pl all each u m) (hm : Low m x0),
    Ev (fun n => f3_broughamlaw39_QuotaBounds_L7 n all each i x0 l all each u m) (fun w => ∃ u' m', w = .inr (all, x0, l, all, each, u', m') ∧ Pl all each u' m' ∧ Low m' x0)
  | 0, i, hi, u, m, h, hm => by
    apply Ev.succ
    unfold f3_broughamlaw39_QuotaBounds_L7
    exact Ev.neg (by simp only [decide_eq_true_eq]; omega) (Ev.some ⟨u, m, rfl, h, hm⟩)
  | d + 1, i, hi, u, m, h, hm => by
    apply Ev.succ
    unfold f3_broughamlaw39_QuotaBounds_L7
    refine Ev.pos (by simp only [decide_eq_true_eq]; omega) ?_
    refine Ev.guard (by omega) (Ev.guard (by omega) (Ev.guard (by omega) (Ev.guard (by omega) ?_)))
    have ho := owner_in (((l.getD i.toNat (0, (0, (0, 0)))).2).1) x0 hx
    revert ho
    generalize Int.tmod (IntKind.wrap .i64 (Int.tmod (((l.getD i.toNat (0, (0, (0, 0)))).2).1) x0 + x0)) x0 = o
    intro ho
    generalize ((((l.getD i.toNat (0, (0, (0, 0)))).2).2).2) = q
    refine Ev.bind (Ev.of (take_is h o q) rfl) ?_
    rintro _ rfl
    have key : ∀ (b : Bool) (u' : Int) (m' : M), Pl all each u' m' → Low m' x0 → Ev (fun n => (f3_broughamlaw39_QuotaBounds_L12 n all each i 0 0 x0 l all each u' m').bind fun w38 =>
      match w38 with
      | .inl e39 => some (.inl e39)
      | .inr e40 =>
        (f16_quota_Pool_Used e40.2.2.2.2.2.2.1 e40.2.2.2.2.2.2.2.1 e40.2.2.2.2.2.2.2.2.1 e40.2.2.2.2.2.2.2.2.2).bind fun r41_0 =>
        if ((e40.2.2.2.1 : Int) != r41_0.1) = true then
          some (.inl false)
        else
          if (decide ((e40.2.2.2.1 : Int) > e40.1)) = true then
            some (.inl false)
          else
            f3_broughamlaw39_QuotaBounds_L7 n e40.1 e40.2.1 (IntKind.wrap .i64 (e40.2.2.1 + 1)) e40.2.2.2.2.1 e40.2.2.2.2.2.1 r41_0.2.1 r41_0.2.2.1 r41_0.2.2.2.1 r41_0.2.2.2.2) (fun w => ∃ u' m', w = .inr (all, x0, l, all, each, u', m') ∧ Pl all each u' m' ∧ Low m' x0) := by
      intro b u' m' h' hm'
      refine Ev.bind (sumLoop h' i x0 hx l be x0.toNat 0 (by omega)) ?_
      rintro _ rfl
      have e1 : upto m' x0.toNat = u' := by rw [h'.used]; exact upto_sm h'.once (by rw [show ((x0.toNat : Nat) : Int) = x0 by omega]; exact hm')
      unfold f16_quota_Pool_Used
      refine Ev.bind (Ev.of rfl rfl) ?_
      rintro _ rfl
      have := h'.le
      refine Ev.neg (by simp only [bne_iff_ne, ne_eq, Decidable.not_not]; exact e1) ?_
      refine Ev.neg (by simp only [decide_eq_true_eq]; omega) ?_
      show Ev (fun n => f3_broughamlaw39_QuotaBounds_L7 n all each (IntKind.wrap .i64 (i + 1)) x0 l all each u' m') _
      rw [i64_id (by omega) (by omega)]
      exact takeLoop all each x0 be hx l hl d (i + 1) (by omega) u' m' h' hm'
    by_cases ht : takes all each u m o q
    · rw [if_pos ht]; exact key true _ _ (h.take ht) (low_putM h.once hm ho)
    · rw [if_neg ht]; exact key false _ _ h hm

theorem dropLoop (all each x0 : Int) (hx : 1 ≤ x0 ∧ x0 ≤ 40) (l : List (Int × Int × Int × Int)) : ∀ (d : Nat) (o : Int) (ho : 0 ≤ o ∧ o + d = x0) (u : Int) (m : M) (h : Pl all each u m) (hm : Low m x0) (hz : ∀ j, 0 ≤ j → j < o → gt m j = 0),
    Ev (fun n => f3_broughamlaw39_QuotaBounds_L20 n all o x0 l all each u m) (fun w => ∃ m', w = (all, x0, l, all, each, 0, m') ∧ Pl all each 0 m' ∧ ∀ j, 0 ≤ j → gt m' j = 0)
  | 0, o, ho, u, m, h, hm, hz => by
    apply Ev.succ
    unfold f3_broughamlaw39_QuotaBounds_L20
    have hz' : ∀ j, 0 ≤ j → gt m j = 0 := fun j hj => by
      by_cases hj2 : j < x0
      · exact hz j hj (by omega)
      · refine gt_out fun hmem => ?_
        obtain ⟨p, hp, rfl⟩ := List.mem_map.1 hmem
        exact hj2 (hm p hp).2
    have h0 : u = 0 := by
      have : ∀ k : Nat, upto m k = 0 := fun k => by
        induction k with
        | zero => rfl
        | succ k ih => rw [upto, ih, hz' k (by omega)]; rfl
      rw [h.used, ← upto_sm (n := x0.toNat) h.once (by rw [show ((x0.toNat : Nat) : Int) = x0 by omega]; exact hm), this]
    subst h0
    exact Ev.neg (by simp only [decide_eq_true_eq]; omega) (Ev.some ⟨m, rfl, h, hz'⟩)
  | d + 1, o, ho, u, m, h, hm, hz => by
    apply Ev.succ
    unfold f3_broughamlaw39_QuotaBounds_L20
    refine Ev.pos (by simp only [decide_eq_true_eq]; omega) ?_
    refine Ev.bind (Ev.of (drop_is h o) rfl) ?_
    rintro _ rfl
    show Ev (fun n => f3_broughamlaw39_QuotaBounds_L20 n all (IntKind.wrap .i64 (o + 1)) x0 l all each (u - gt m o) (putM m o 0)) _
    rw [i64_id (by omega) (by omega)]
    refine dropLoop all each x0 hx l d (o + 1) (by omega) _ _ (h.drop o) (low_putM h.once hm (by omega)) (fun j h1 h2 => ?_)
    rw [gt_putM h.once]
    split
    · rfl
    · exact hz j h1 (by omega)

theorem fairLoop (all each x0 : Int) (hx : 1 ≤ x0 ∧ x0 ≤ 40) (l : List (Int × Int × Int × Int)) : ∀ (d : Nat) (o : Int) (ho : 0 ≤ o ∧ o + d = x0) (m : M) (h : Pl all each (o * fairOf all each x0) m) (hz : ∀ j, o ≤ j → gt m j = 0),
    Ev (fun n => f3_broughamlaw39_QuotaBounds_L24 n all o x0 l all each (o * fairOf all each x0) m) (fun w => ∃ u' m', w = .inr (all, all, each, u', m') ∧ u' ≤ all)
  | 0, o, ho, m, h, hz => by
    apply Ev.succ
    unfold f3_broughamlaw39_QuotaBounds_L24
    exact Ev.neg (by simp only [decide_eq_true_eq]; omega) (Ev.some ⟨_, m, rfl, h.le⟩)
  | d + 1, o, ho, m, h, hz => by
    have hf0 : 0 ≤ fairOf all each x0 := by
      unfold fairOf; split
      · exact Int.ediv_nonneg h.ba.1 (by omega)
      · exact h.be.1
    have hf1 : fairOf all each x0 ≤ each ∧ fairOf all each x0 ≤ all / x0 := by unfold fairOf; split <;> omega
    have hf2 : (o + 1) * fairOf all each x0 ≤ all := by
      have h1 : (o + 1) * fairOf all each x0 ≤ x0 * fairOf all each x0 := Int.mul_le_mul_of_nonneg_right (by omega) hf0
      have h2 : x0 * fairOf all each x0 ≤ x0 * (all / x0) := Int.mul_le_mul_of_nonneg_left hf1.2 (by omega)
      have h3 := Int.ediv_mul_le all (b := x0) (by omega)
      rw [Int.mul_comm] at h3; omega
    have e1 : o * fairOf all each x0 + fairOf all each x0 = (o + 1) * fairOf all each x0 := by rw [Int.add_mul]; omega
    have g0 := hz o (by omega)
    apply Ev.succ
    unfold f3_broughamlaw39_QuotaBounds_L24
    refine Ev.pos (by simp only [decide_eq_true_eq]; omega) ?_
    refine Ev.bind (Ev.of (fair_is h hx.1) rfl) ?_
    rintro _ rfl
    have ht : takes all each (o * fairOf all each x0) m o (fairOf all each x0) := ⟨hf0, by omega, by omega⟩
    have hP := h.take ht
    rw [e1] at hP
    refine Ev.bind (Ev.of (take_is h o (fairOf all each x0)) rfl) ?_
    rintro _ rfl
    rw [if_pos ht]
    refine Ev.neg (by simp) ?_
    show Ev (fun n => f3_broughamlaw39_QuotaBounds_L24 n all (IntKind.wrap .i64 (o + 1)) x0 l all each (o * fairOf all each x0 + fairOf all each x0) (putM m o (gt m o + fairOf all each x0))) _
    rw [i64_id (by omega) (by omega), e1]
    refine fairLoop all each x0 hx l d (o + 1) (by omega) _ hP (fun j hj => ?_)
    rw [gt_putM h.once, if_neg (by omega)]
    exact hz j (by omega)

theorem QuotaBounds (all : Int) (h0 : K.ok (.int .i64) all) (each : Int) (h1 : K.ok (.int .i64) each) (x : Int × List (Int × Int × Int × Int)) (h2 : K.ok (.pair (.int .i64) (.slice (.pair (.int .i64) (.pair (.int .i64) (.pair (.int .i64) (.int .i64)))))) x) : ∃ n, f3_broughamlaw39_QuotaBounds n all each x.1 x.2 = some true := by
  obtain ⟨x0, l⟩ := x
  apply Ev.true
  unfold f3_broughamlaw39_QuotaBounds
  refine Ev.ite (fun _ => Ev.some rfl) fun a1 => ?_
  refine Ev.ite (fun _ => Ev.some rfl) fun a2 => ?_
  refine Ev.ite (fun _ => Ev.some rfl) fun a3 => ?_
  refine Ev.ite (fun _ => Ev.some rfl) fun a4 => ?_
  refine Ev.ite (fun _ => Ev.some rfl) fun a5 => ?_
  refine Ev.ite (fun _ => Ev.some rfl) fun a6 => ?_
  refine Ev.ite (fun _ => Ev.some rfl) fun a7 => ?_
  simp only [decide_eq_true_eq] at a1 a2 a3 a4 a5 a6 a7
  refine Ev.bind (Ev.of (new_is (by omega) (by omega)) rfl) ?_
  rintro _ rfl
  refine Ev.bind (takeLoop all each x0 (by omega) (by omega) l (by omega) l.length 0 (by omega) 0 [] (Pl.new (by omega) (by omega)) (fun p hp => by cases hp)) ?_
  rintro _ ⟨u1, m1, rfl, hP1, hL1⟩
  refine Ev.bind (dropLoop all each x0 (by omega) l x0.toNat 0 (by omega) u1 m1 hP1 hL1 (fun j q1 q2 => by omega)) ?_
  rintro _ ⟨m2, rfl, hP2, hz⟩
  have hP2' : Pl all each (0 * fairOf all each x0) m2 := by rw [Int.zero_mul]; exact hP2
  have hF := fairLoop all each x0 (by omega) l x0.toNat 0 (by omega) m2 hP2' (fun j hj => hz j hj)
  rw [Int.zero_mul] at hF
  refine Ev.bind hF ?_
  rintro _ ⟨u3, m3, rfl, hu⟩
  unfold f16_quota_Pool_Used
  refine Ev.bind (Ev.of rfl rfl) ?_
  rintro _ rfl
  refine Ev.pos (by simp only [decide_eq_true_eq]; exact hu) ?_
  refine Ev.bind (Ev.of quota_alive rfl) ?_
  rintro _ rfl
  exact Ev.some rfl
end Go.Proofs.YtjimlfjhhmdcdaaF39
