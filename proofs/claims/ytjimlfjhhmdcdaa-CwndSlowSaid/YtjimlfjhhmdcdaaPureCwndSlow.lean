/- CwndSlow: behind a loss a window grows fast up to half of what it was, then slowly: of the functions that text F13 prints. Conditions: none. -/
import Derived.Test.YtjimlfjhhmdcdaaPureCwndPlays
namespace Go.Proofs.YtjimlfjhhmdcdaaF13
open Go Zed
set_option linter.unusedVariables false
set_option linter.unusedSimpArgs false

theorem suc_mul (a m : Int) : (a + 1) * m = a * m + m := by rw [Int.add_mul, Int.one_mul]
theorem zero_gone {x : Int} : goneU 0 x = 0 := by
  have := cn_in x
  unfold goneU
  rw [i64_id (by omega) (by omega)]
  split <;> omega
/-- Growing fast. -/
theorem fast {m z s p : Int} (hm : 1 ≤ m ∧ m ≤ 1000) (hz : 0 ≤ z ∧ z < s) (h : z + m ≤ 64 * m) (l : List P) : ackedOf m l (m, z, s, p, 0) = (m, z + m, s, p, 0) := by
  unfold ackedOf
  dsimp only
  rw [if_pos hz.2, zero_gone, cn_id (x := m) (by omega), cap_is (by omega) (by omega) (by omega), if_neg (by omega)]
theorem slow1 (m y e : Int) (hm : 1 ≤ m ∧ m ≤ 1000) : ∀ (k i : Nat), i + k = 20 → Ev (fun n => f8_broughamlaw13_CwndSlow_L7 n m y e (i : Int) m ((4 + (i : Int)) * m) (64 * m) 0 0) (fun r => r = (m, y, e, m, 24 * m, 64 * m, 0, 0))
  | 0, i, hi => by
    apply Ev.succ
    simp only [f8_broughamlaw13_CwndSlow_L7]
    obtain rfl : i = 20 := by omega
    exact Ev.neg (by decide) (Ev.some rfl)
  | k + 1, i, hi => by
    apply Ev.succ
    simp only [f8_broughamlaw13_CwndSlow_L7]
    have e1 : (4 + (i : Int)) * m + m = (4 + ((i + 1 : Nat) : Int)) * m := by
      rw [show (4 + ((i + 1 : Nat) : Int)) = (4 + (i : Int)) + 1 by omega, suc_mul]
    have b1 : m ≤ (4 + (i : Int)) * m := by
      have := Int.mul_le_mul_of_nonneg_right (show (1 : Int) ≤ 4 + (i : Int) by omega) (show 0 ≤ m by omega)
      omega
    have b2 : (4 + (i : Int)) * m ≤ 23 * m := Int.mul_le_mul_of_nonneg_right (by omega) (by omega)
    have hI : Inv 0 ((m, (4 + (i : Int)) * m, 64 * m, 0, 0) : W) := ⟨hm.1, by dsimp only; omega, b1, by dsimp only; omega, by dsimp only; omega, by dsimp only; omega, Int.le_refl _, by dsimp only; decide, Int.le_refl _, Int.le_refl _⟩
    refine Ev.pos (by simp; omega) ?_
    refine Ev.bind (code_acked hI m []) ?_
    intro r hr
    rw [hr, fast hm (by omega) (by omega), e1, show IntKind.wrap .i64 ((i : Int) + 1) = ((i + 1 : Nat) : Int) by rw [i64_id] <;> omega]
    exact slow1 m y e hm k (i + 1) (by omega)
theorem slow2 (m y e : Int) (hm : 1 ≤ m ∧ m ≤ 1000) : ∀ (k i : Nat), i + k = 11 → Ev (fun n => f8_broughamlaw13_CwndSlow_L13 n m y e (12 * m) (i : Int) m ((1 + (i : Int)) * m) (12 * m) 0 0) (fun r => r = .inr (m, y, e, 12 * m, m, 12 * m, 12 * m, 0, 0))
  | 0, i, hi => by
    apply Ev.succ
    simp only [f8_broughamlaw13_CwndSlow_L13]
    obtain rfl : i = 11 := by omega
    refine Ev.pos (by decide) ?_
    refine Ev.bind (Ev.of (r := ((1 + ((11 : Nat) : Int)) * m, m, (1 + ((11 : Nat) : Int)) * m, 12 * m, 0, 0)) rfl rfl) ?_
    rintro _ rfl
    have e : (1 + ((11 : Nat) : Int)) * m = 12 * m := rfl
    rw [e]
    exact Ev.neg (by simp) (Ev.some rfl)
  | k + 1, i, hi => by
    apply Ev.succ
    simp only [f8_broughamlaw13_CwndSlow_L13]
    have e1 : (1 + (i : Int)) * m + m = (1 + ((i + 1 : Nat) : Int)) * m := by
      rw [show (1 + ((i + 1 : Nat) : Int)) = (1 + (i : Int)) + 1 by omega, suc_mul]
    have b1 : m ≤ (1 + (i : Int)) * m := by
      have := Int.mul_le_mul_of_nonneg_right (show (1 : Int) ≤ 1 + (i : Int) by omega) (show 0 ≤ m by omega)
      omega
    have b2 : (1 + (i : Int)) * m ≤ 11 * m := Int.mul_le_mul_of_nonneg_right (by omega) (by omega)
    have hI : Inv 0 ((m, (1 + (i : Int)) * m, 12 * m, 0, 0) : W) := ⟨hm.1, by dsimp only; omega, b1, by dsimp only; omega, by dsimp only; omega, by dsimp only; omega, Int.le_refl _, by dsimp only; decide, Int.le_refl _, Int.le_refl _⟩
    refine Ev.pos (by simp; omega) ?_
    refine Ev.bind (Ev.of (r := ((1 + (i : Int)) * m, m, (1 + (i : Int)) * m, 12 * m, 0, 0)) rfl rfl) ?_
    rintro _ rfl
    refine Ev.pos (by simp only [decide_eq_true_eq]; omega) ?_
    refine Ev.bind (Ev.of (r := ((1 + (i : Int)) * m, m, (1 + (i : Int)) * m, 12 * m, 0, 0)) rfl rfl) ?_
    rintro _ rfl
    refine Ev.bind (code_acked hI m []) ?_
    intro r hr
    rw [hr, fast hm (by omega) (by omega), e1]
    refine Ev.bind (Ev.of (r := ((1 + ((i + 1 : Nat) : Int)) * m, m, (1 + ((i + 1 : Nat) : Int)) * m, 12 * m, 0, 0)) rfl rfl) ?_
    rintro _ rfl
    refine Ev.neg ?_ ?_
    · dsimp only
      rw [i64_id (e := (1 + ((i + 1 : Nat) : Int)) * m) (by omega) (by omega)]
      simp only [bne_self_eq_false]; decide
    · rw [show IntKind.wrap .i64 ((i : Int) + 1) = ((i + 1 : Nat) : Int) by rw [i64_id] <;> omega]
      exact slow2 m y e hm k (i + 1) (by omega)

theorem fl {a z : Int} (ha : 0 ≤ a) (hz : 1 ≤ z) : a / z * z ≤ a := by
  have := Int.emod_add_mul_ediv a z
  have h2 := Int.emod_nonneg a (show z ≠ 0 by omega)
  have : z * (a / z) = a / z * z := Int.mul_comm _ _
  omega
/-- Growing slowly: how far. -/
structure Far (m c : Int) (w : W) : Prop where
  inv : Inv 0 w
  me : w.1 = m
  ge : 12 * m ≤ w.2.1
  sl : w.2.2.1 = 12 * m
  far : (1024 * (w.2.1 - 12 * m) + w.2.2.2.1) * (12 * m) ≤ c * (1024 * m * m)
theorem far_step {m c : Int} {w : W} (hm : 1 ≤ m ∧ m ≤ 1000) (h : Far m c w) (l : List P) : Far m (c + 1) (ackedOf m l w) := by
  have hI := h.inv
  have hgs := grow_sum hI m l
  dsimp only at hgs
  have hc : cn m = m := cn_id (by omega)
  have g1 := grow_in (cn_in m) (alphaOf_in l) ⟨hI.m1, hI.m2⟩ (show 1 ≤ w.2.1 by have := hI.m1; have := hI.z1; omega) (show 1 ≤ totOf l w.2.1 by have := tot_ge l w.2.1; have := hI.m1; have := hI.z1; omega)
  have hi := inv_acked hI (by omega) m l
  have hz := h.ge; have hs := h.sl; have hp := hI.p1; have hme := h.me; have hz2 := hI.z2
  have ns : ¬ w.2.1 < w.2.2.1 := by omega
  have hr : (ackedOf m l w).2.1 = capW w.1 (w.2.1 + IntKind.wrap .i64 (Int.tdiv (IntKind.wrap .i64 (w.2.2.2.1 + growOf (cn m) (alphaOf l) (totOf l w.2.1) w.1 w.2.1)) 1024)) := by unfold ackedOf; rw [if_neg ns]
  have hr2 : (ackedOf m l w).2.2.2.1 = Int.tmod (IntKind.wrap .i64 (w.2.2.2.1 + growOf (cn m) (alphaOf l) (totOf l w.2.1) w.1 w.2.1)) 1024 := by unfold ackedOf; rw [if_neg ns]
  have hr3 : (ackedOf m l w).1 = w.1 := by unfold ackedOf; rw [if_neg ns]
  have hr4 : (ackedOf m l w).2.2.1 = w.2.2.1 := by unfold ackedOf; rw [if_neg ns]
  rw [hc, hme] at g1 hgs
  rw [hc, hme, hgs.2.2.1, cap_is (by omega) (by omega) (by omega)] at hr
  rw [hc, hme, hgs.2.1, tmod_e (by omega)] at hr2
  generalize growOf m (alphaOf l) (totOf l w.2.1) m w.2.1 = g at g1 hgs hr hr2
  have hq : 1024 * m * m / w.2.1 * w.2.1 ≤ 1024 * m * m := fl (by have := sq (x := m) (hi := 1000) hm; rw [Int.mul_assoc]; omega) (by omega)
  have hq0 : 0 ≤ 1024 * m * m / w.2.1 := by omega
  have hgz : g * (12 * m) ≤ 1024 * m * m := by
    have h1 : g * (12 * m) ≤ 1024 * m * m / w.2.1 * w.2.1 := Int.mul_le_mul g1.2.2 hz (by omega) hq0
    omega
  refine ⟨hi, by omega, ?_, by omega, ?_⟩
  · rw [hr]; split <;> omega
  · have h1 : 1024 * ((ackedOf m l w).2.1 - 12 * m) + (ackedOf m l w).2.2.2.1 ≤ (1024 * (w.2.1 - 12 * m) + w.2.2.2.1) + g := by
      rw [hr, hr2]; split <;> omega
    have h2 := Int.mul_le_mul_of_nonneg_right h1 (show 0 ≤ 12 * m by omega)
    rw [Int.add_mul (1024 * (w.2.1 - 12 * m) + w.2.2.2.1) g (12 * m)] at h2
    have h3 := h.far
    rw [suc_mul]
    omega
theorem slow3 (m e : Int) (hm : 1 ≤ m ∧ m ≤ 1000) (y : Nat) (hy : y ≤ 300) : ∀ (k i : Nat), i + k = y → ∀ w : W, Far m i w → Ev (fun n => f8_broughamlaw13_CwndSlow_L21 n m (y : Int) e (12 * m) (12 * m) ((i : Int) * m) (i : Int) w.1 w.2.1 w.2.2.1 w.2.2.2.1 w.2.2.2.2) (fun r => ∃ w : W, Far m y w ∧ r = (m, 12 * m, 12 * m, (y : Int) * m, w))
  | 0, i, hi, w, h => by
    apply Ev.succ
    simp only [f8_broughamlaw13_CwndSlow_L21]
    obtain rfl : i = y := by omega
    exact Ev.neg (by simp) (Ev.some ⟨w, h, rfl⟩)
  | k + 1, i, hi, w, h => by
    apply Ev.succ
    simp only [f8_broughamlaw13_CwndSlow_L21]
    have b0 : 0 ≤ (i : Int) * m := Int.mul_nonneg (by omega) (by omega)
    have b1 : (i : Int) * m ≤ 300 * 1000 := Int.mul_le_mul (by omega) (by omega) (by omega) (by omega)
    have e1 : (i : Int) * m + m = ((i + 1 : Nat) : Int) * m := by
      rw [show ((i + 1 : Nat) : Int) = (i : Int) + 1 by omega, suc_mul]
    refine Ev.pos (by simp; omega) ?_
    refine Ev.bind (Ev.of (r := (w.2.1, w)) rfl rfl) ?_
    rintro _ rfl
    refine Ev.bind (code_acked h.inv m [(w.2.1, e)]) ?_
    intro r hr
    rw [hr, i64_id (e := (i : Int) * m + m) (by omega) (by omega), e1, show IntKind.wrap .i64 ((i : Int) + 1) = ((i + 1 : Nat) : Int) by rw [i64_id] <;> omega]
    have hf := far_step hm h [(w.2.1, e)]
    exact slow3 m e hm y hy k (i + 1) (by omega) (ackedOf m [(w.2.1, e)] w) (by rw [show ((i + 1 : Nat) : Int) = (i : Int) + 1 by omega]; exact hf)

theorem CwndSlow (mss : Int) (h0 : K.ok (.int .i64) mss) (many : Int) (h1 : K.ok (.int .i64) many) (mean : Int) (h2 : K.ok (.int .i64) mean) : ∃ n, f8_broughamlaw13_CwndSlow n mss many mean = some true := by
  apply Ev.true
  unfold f8_broughamlaw13_CwndSlow
  refine Ev.ite (fun _ => Ev.some rfl) fun a1 => Ev.ite (fun _ => Ev.some rfl) fun a2 => Ev.ite (fun _ => Ev.some rfl) fun a3 => Ev.ite (fun _ => Ev.some rfl) fun a4 => Ev.ite (fun _ => Ev.some rfl) fun a5 => Ev.ite (fun _ => Ev.some rfl) fun a6 => ?_
  simp only [decide_eq_true_eq] at a1 a2 a3 a4 a5 a6
  obtain ⟨y, rfl⟩ : ∃ y : Nat, many = (y : Int) := ⟨many.toNat, by omega⟩
  have hm : 1 ≤ mss ∧ mss ≤ 1000 := by omega
  have hcz : cz mss 1024 = mss := by unfold cz; rw [if_neg (show ¬ mss < 1 by omega), if_neg (by omega)]
  refine Ev.bind (Ev.of (r := newOf mss) rfl rfl) ?_
  intro r hr
  rw [← hr, new_is, hcz]
  refine Ev.bind (slow1 mss y mean hm 20 0 (by omega)) ?_
  rintro _ rfl
  refine Ev.bind (Ev.of (r := (24 * mss, mss, 24 * mss, 64 * mss, 0, 0)) rfl rfl) ?_
  rintro _ rfl
  have hl : lostOf 0 (mss, 24 * mss, 64 * mss, 0, 0) = (mss, mss, 12 * mss, 0, 0) := by
    unfold lostOf
    dsimp only
    rw [zero_gone, tdiv_e (by omega), i64_id (e := 24 * mss / 2) (by omega) (by omega), i64_id (e := 2 * mss) (by omega) (by omega), if_neg (by omega), show 24 * mss / 2 = 12 * mss by omega]
  refine Ev.bind (Ev.of (code_lost (w := (mss, 24 * mss, 64 * mss, 0, 0)) 0) rfl) ?_
  intro r hr
  rw [← hr, hl]
  have e12 : IntKind.wrap .i64 (Int.tdiv (24 * mss) 2) = 12 * mss := by
    rw [tdiv_e (by omega), i64_id (by omega) (by omega)]; omega
  dsimp only
  rw [e12]
  have e1 := slow2 mss y mean hm 11 0 (by omega)
  rw [show (1 + ((0 : Nat) : Int)) * mss = mss by simp] at e1
  refine Ev.bind e1 ?_
  rintro _ rfl
  dsimp only
  refine Ev.bind (Ev.of (r := (12 * mss, mss, 12 * mss, 12 * mss, 0, 0)) rfl rfl) ?_
  rintro _ rfl
  have hF : Far mss ((0 : Nat) : Int) ((mss, 12 * mss, 12 * mss, 0, 0) : W) :=
    ⟨⟨hm.1, by dsimp only; omega, by dsimp only; omega, by dsimp only; omega, by dsimp only; omega, by dsimp only; omega, Int.le_refl _, by dsimp only; decide, Int.le_refl _, Int.le_refl _⟩, rfl, Int.le_refl _, rfl, by dsimp only; simp⟩
  have e2 := slow3 mss mean hm y (by omega) y 0 (by omega) _ hF
  rw [show ((0 : Nat) : Int) * mss = 0 by simp] at e2
  refine Ev.bind e2 ?_
  rintro _ ⟨w, hw, rfl⟩
  dsimp only
  have hz := hw.ge; have hz2 := hw.inv.z2; have hme := hw.me; have hp := hw.inv.p1
  refine Ev.pos (by simp) (Ev.pos ?_ ?_)
  · simp only [decide_eq_true_eq]
    rw [i64_id (by omega) (by omega)]; omega
  · refine Ev.bind (Ev.of (r := (w.2.1, w)) rfl rfl) ?_
    rintro _ rfl
    refine Ev.pos (by simp only [decide_eq_true_eq]; omega) ?_
    refine Ev.bind (Ev.of (r := (w.2.1, w)) rfl rfl) ?_
    rintro _ rfl
    refine Ev.guard (by omega) (Ev.pos ?_ ?_)
    · simp only [decide_eq_true_eq]
      have b0 : 0 ≤ (y : Int) * mss := Int.mul_nonneg (by omega) (by omega)
      have b1 : (y : Int) * mss ≤ 300 * 1000 := Int.mul_le_mul (by omega) (by omega) (by omega) (by omega)
      have c := pr (A := 300000) (B := 1000) (show 0 ≤ (y : Int) * mss ∧ (y : Int) * mss ≤ 300000 by omega) (show 0 ≤ mss ∧ mss ≤ 1000 by omega)
      have hf := hw.far
      have d1 : (w.2.1 - 12 * mss) * (12 * mss) ≤ (y : Int) * mss * mss := by
        have f1 : 1024 * ((w.2.1 - 12 * mss) * (12 * mss)) ≤ (1024 * (w.2.1 - 12 * mss) + w.2.2.2.1) * (12 * mss) := by
          rw [Int.add_mul, Int.mul_assoc]
          have := Int.mul_nonneg hp (show 0 ≤ 12 * mss by omega)
          omega
        have f2 : (y : Int) * (1024 * mss * mss) = 1024 * ((y : Int) * mss * mss) := by
          rw [Int.mul_assoc 1024, Int.mul_left_comm, Int.mul_assoc]
        omega
      have d2 : w.2.1 - 12 * mss ≤ (y : Int) * mss * mss / (12 * mss) := Int.le_ediv_of_mul_le (by omega) d1
      have d3 : (y : Int) * mss * mss / (12 * mss) ≤ (y : Int) * mss * mss := Int.ediv_le_self _ c.1
      have d4 : 0 ≤ (y : Int) * mss * mss / (12 * mss) := Int.ediv_nonneg c.1 (by omega)
      rw [i64_id (e := (y : Int) * mss * mss) (by omega) (by omega), tdiv_e c.1, i64_id (e := w.2.1 - 12 * mss) (by omega) (by omega), i64_id (e := (y : Int) * mss * mss / (12 * mss)) (by omega) (by omega), i64_id (by omega) (by omega)]
      omega
    · exact Ev.bind alive_ev (fun r hr => Ev.some hr)
end Go.Proofs.YtjimlfjhhmdcdaaF13
