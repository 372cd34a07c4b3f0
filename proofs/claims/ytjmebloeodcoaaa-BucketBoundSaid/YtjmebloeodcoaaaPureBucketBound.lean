/- BucketBound: no more is done than burst and rate let: of the functions that text F11 prints. Conditions: none. -/
import Derived.Test.YtjmebloeodcoaaaPureBucketPlays
namespace Go.Proofs.YtjmebloeodcoaaaF11
open Go Zed
set_option linter.unusedVariables false

/-- How many from i to below k. -/
def A (d : List Int) (i k : Nat) : Int := ((d.take k).drop i).sum

structure Inv (burst rate : Int) (d : List Int) (t : Int) : Prop where
  t0 : 0 ≤ t
  tb : t ≤ burst
  els : ∀ x ∈ d, 0 ≤ x ∧ x ≤ 50
  now : ∀ i, i ≤ d.length → A d i d.length + t ≤ burst + rate * ((d.length : Int) - i)
  all : ∀ i k, i ≤ k → k < d.length → A d i (k + 1) ≤ burst + rate * ((k : Int) - i)

theorem A_self (d : List Int) (k : Nat) : A d k k = 0 := by
  have : (d.take k).drop k = [] := List.drop_eq_nil_of_le (by simp; omega)
  simp [A, this]
theorem A_snoc (d : List Int) (n : Int) (i : Nat) (h : i ≤ d.length) : A (d ++ [n]) i (d.length + 1) = A d i d.length + n := by
  simp only [A]
  rw [List.take_of_length_le (by simp), List.take_of_length_le (by simp), List.drop_append_of_le_length h]
  simp
theorem A_old (d : List Int) (n : Int) (i k : Nat) (h : k ≤ d.length) : A (d ++ [n]) i k = A d i k := by
  simp only [A, List.take_append_of_le_length h]
theorem A_step (d : List Int) (i k : Nat) (hik : i ≤ k) (h : k < d.length) : A d i (k + 1) = A d i k + d.getD k 0 := by
  simp only [A]
  rw [List.take_succ_eq_append_getElem h, List.drop_append_of_le_length (by simp; omega)]
  simp [List.getD, List.getElem?_eq_getElem h]

theorem Inv.step {burst rate t : Int} {d : List Int} (h : Inv burst rate d t) (hr : 0 ≤ rate) {n t' : Int} (hn : 0 ≤ n ∧ n ≤ 50 ∧ n ≤ t) (ht : t' = if burst < t - n + rate then burst else t - n + rate) (hb : 0 ≤ burst) : Inv burst rate (d ++ [n]) t' where
  t0 := by have := h.t0; split at ht <;> omega
  tb := by split at ht <;> omega
  els x hx := by
    rcases List.mem_append.1 hx with h1 | h1
    · exact h.els x h1
    · simp at h1; omega
  now i hi := by
    have ht' : t' ≤ t - n + rate := by split at ht <;> omega
    simp only [List.length_append, List.length_cons, List.length_nil, Nat.zero_add] at hi ⊢
    by_cases hi' : i ≤ d.length
    · rw [A_snoc _ _ _ hi']
      have := h.now i hi'
      have e : rate * (((d.length + 1 : Nat) : Int) - i) = rate * ((d.length : Int) - i) + rate := by
        rw [show ((d.length + 1 : Nat) : Int) - i = ((d.length : Int) - i) + 1 by omega, Int.mul_add, Int.mul_one]
      omega
    · obtain rfl : i = d.length + 1 := by omega
      rw [A_self, show (((d.length + 1 : Nat) : Int) - ((d.length + 1 : Nat) : Int)) = 0 by omega, Int.mul_zero]
      split at ht <;> omega
  all i k hik hk := by
    simp only [List.length_append, List.length_cons, List.length_nil, Nat.zero_add] at hk
    by_cases hk' : k < d.length
    · rw [A_old _ _ _ _ (by omega)]; exact h.all i k hik hk'
    · obtain rfl : k = d.length := by omega
      rw [A_snoc _ _ _ hik]
      have := h.now i hik
      omega

theorem takes (burst rate : Int) (l done : List Int) (i : Int) (hi : 0 ≤ i ∧ i < l.length) (b r : Int) : ∀ (m : Nat) (n_ k t : Int), 0 ≤ k → k + m = 50 → 0 ≤ n_ ∧ n_ ≤ k → 0 ≤ t ∧ t ≤ 4096 →
    Ev (fun n => f5_broughamlaw11_BucketBound_L12 n burst rate l done i n_ k b r t) (fun w => ∃ n' t', 0 ≤ n' ∧ n' ≤ 50 ∧ 0 ≤ t' ∧ n' + t' = n_ + t ∧ w = (burst, rate, l, done, i, n', b, r, t'))
  | m, n_, k, t, h0, hk, hn, ht => by
    apply Ev.succ
    simp only [f5_broughamlaw11_BucketBound_L12]
    refine Ev.guard (by omega) (Ev.ite (fun _ => ?_) (fun _ => Ev.some ⟨n_, t, by omega, by omega, by omega, by omega, rfl⟩))
    match m, hk with
    | 0, hk => exact Ev.neg (by simp; omega) (Ev.some ⟨n_, t, by omega, by omega, by omega, by omega, rfl⟩)
    | m + 1, hk =>
      refine Ev.pos (by simp; omega) ?_
      simp only [f24_bucket_Bucket_Take]
      rw [i64_id (show -9223372036854775808 ≤ k + 1 by omega) (by omega)]
      by_cases h : (t == 0) = true
      · simp only [if_pos h, Option.bind_some]
        exact Ev.neg (by simp) (takes burst rate l done i hi b r m n_ (k + 1) t (by omega) (by omega) (by omega) ht)
      · simp only [if_neg h, Option.bind_some]
        simp at h
        refine Ev.pos trivial ?_
        rw [i64_id (show -9223372036854775808 ≤ t - 1 by omega) (by omega), i64_id (show -9223372036854775808 ≤ n_ + 1 by omega) (by omega)]
        refine (takes burst rate l done i hi b r m (n_ + 1) (k + 1) (t - 1) (by omega) (by omega) (by omega) (by omega)).mono ?_
        rintro _ ⟨n', t', q1, q2, q3, q4, rfl⟩
        exact ⟨n', t', q1, q2, q3, by omega, rfl⟩

theorem rows (burst rate : Int) (hb : 0 ≤ burst ∧ burst ≤ 4096) (hr : 0 ≤ rate ∧ rate ≤ 4096) (l : List Int) (hl : l.length ≤ 200) : ∀ (m : Nat) (done : List Int) (i t : Int), 0 ≤ i → i + m = l.length → done.length = i → Inv burst rate done t →
    Ev (fun n => f5_broughamlaw11_BucketBound_L8 n burst rate l done i burst rate t) (fun w => ∃ d t, d.length = l.length ∧ Inv burst rate d t ∧ w = (burst, rate, d))
  | 0, done, i, t, h0, hi, hd, hinv => by
    apply Ev.succ
    simp only [f5_broughamlaw11_BucketBound_L8]
    exact Ev.neg (by simp; omega) (Ev.some ⟨done, t, by omega, hinv, rfl⟩)
  | m + 1, done, i, t, h0, hi, hd, hinv => by
    apply Ev.succ
    simp only [f5_broughamlaw11_BucketBound_L8]
    have ht0 := hinv.t0
    have htb := hinv.tb
    refine Ev.pos (by simp; omega) (Ev.bind (takes burst rate l done i (by omega) burst rate 50 0 0 t (by omega) (by omega) (by omega) (by omega)) ?_)
    rintro _ ⟨n', t', q1, q2, q3, q4, rfl⟩
    refine Ev.guard (by simp [maxLen, IntKind.max, IntKind.signed, IntKind.bits]; omega) ?_
    simp only [f25_bucket_Bucket_Tick, Option.bind_some]
    rw [i64_id (show -9223372036854775808 ≤ i + 1 by omega) (by omega)]
    refine rows burst rate hb hr l hl m (done ++ [n']) (i + 1) _ (by omega) (by omega) (by simp; omega) (hinv.step hr.1 (n := n') (by omega) ?_ hb.1)
    simp only [show ¬ ((1 : Int) < 0) by decide, if_false, show ¬ ((4096 : Int) < 1) by decide, Int.one_mul, i64_id (show -9223372036854775808 ≤ rate by omega) (by omega), i64_id (show -9223372036854775808 ≤ t' + rate by omega) (by omega)]
    have : t - n' = t' := by omega
    rw [this]

theorem sums (burst rate : Int) (hb : 0 ≤ burst ∧ burst ≤ 4096) (hr : 0 ≤ rate ∧ rate ≤ 4096) (d : List Int) (t : Int) (hd : d.length ≤ 200) (hinv : Inv burst rate d t) (i : Nat) : ∀ (m k : Nat), i ≤ k → k + m = d.length → A d i k ≤ 50 * k ∧ 0 ≤ A d i k →
    Ev (fun n => f5_broughamlaw11_BucketBound_L23 n burst rate d i (A d i k) k) (fun w => w = .inr (burst, rate, d, (i : Int)))
  | 0, k, hik, hk, hA => by
    apply Ev.succ
    simp only [f5_broughamlaw11_BucketBound_L23]
    exact Ev.neg (by simp; omega) (Ev.some rfl)
  | m + 1, k, hik, hk, hA => by
    apply Ev.succ
    simp only [f5_broughamlaw11_BucketBound_L23]
    have h1 := hinv.els _ (getD_mem (show k < d.length by omega) 0)
    have h2 := hinv.all i k hik (by omega)
    have h3 := A_step d i k hik (by omega)
    have hm : 0 ≤ rate * ((k : Int) - i) ∧ rate * ((k : Int) - i) ≤ 4096 * ((k : Int) - i) := ⟨Int.mul_nonneg hr.1 (by omega), Int.mul_le_mul_of_nonneg_right hr.2 (by omega)⟩
    refine Ev.pos (by simp; omega) (Ev.guard (by omega) ?_)
    rw [Int.toNat_natCast, ← h3] 
    rw [i64_id (show -9223372036854775808 ≤ (k : Int) - i by omega) (by omega), i64_id (show -9223372036854775808 ≤ rate * ((k : Int) - i) by omega) (by omega), i64_id (show -9223372036854775808 ≤ burst + rate * ((k : Int) - i) by omega) (by omega),
      i64_id (show -9223372036854775808 ≤ A d i (k + 1) by omega) (by omega), i64_id (show -9223372036854775808 ≤ (k : Int) + 1 by omega) (by omega)]
    refine Ev.neg (by simp; omega) ?_
    exact_mod_cast sums burst rate hb hr d t hd hinv i m (k + 1) (by omega) (by omega) (by omega)

theorem allSums (burst rate : Int) (hb : 0 ≤ burst ∧ burst ≤ 4096) (hr : 0 ≤ rate ∧ rate ≤ 4096) (d : List Int) (t : Int) (hd : d.length ≤ 200) (hinv : Inv burst rate d t) : ∀ (m i : Nat), i + m = d.length →
    Ev (fun n => f5_broughamlaw11_BucketBound_L19 n burst rate d i) (fun w => w = .inr ())
  | 0, i, hi => by
    apply Ev.succ
    simp only [f5_broughamlaw11_BucketBound_L19]
    exact Ev.neg (by simp; omega) (Ev.some rfl)
  | m + 1, i, hi => by
    apply Ev.succ
    simp only [f5_broughamlaw11_BucketBound_L19]
    have := sums burst rate hb hr d t hd hinv i (m + 1) i (Nat.le_refl _) hi (by rw [A_self]; omega)
    rw [A_self] at this
    refine Ev.pos (by simp; omega) (Ev.bind this ?_)
    rintro _ rfl
    dsimp only
    rw [i64_id (show -9223372036854775808 ≤ (i : Int) + 1 by omega) (by omega)]
    exact_mod_cast allSums burst rate hb hr d t hd hinv m (i + 1) (by omega)

theorem BucketBound (burst : Int) (h0 : K.ok (.int .i64) burst) (rate : Int) (h1 : K.ok (.int .i64) rate) (l : List Int) (h2 : K.ok (.slice (.int .i64)) l) : ∃ n, f5_broughamlaw11_BucketBound n burst rate l = some true := by
  apply Ev.true
  simp only [f5_broughamlaw11_BucketBound]
  refine Ev.ite (fun _ => Ev.some rfl) fun a1 => Ev.ite (fun _ => Ev.some rfl) fun a2 => Ev.ite (fun _ => Ev.some rfl) fun a3 => Ev.ite (fun _ => Ev.some rfl) fun a4 => Ev.ite (fun _ => Ev.some rfl) fun a5 => ?_
  simp only [decide_eq_true_eq] at a1 a2 a3 a4 a5
  simp only [f21_bucket_New, Option.bind_some, if_neg a1, if_neg a3, if_neg (show ¬ 4096 < burst by omega), if_neg (show ¬ 4096 < rate by omega)]
  have hinv : Inv burst rate [] burst := ⟨by omega, by omega, by simp, fun i hi => by simp at hi; subst hi; simp [A], fun i k _ hk => by simp at hk⟩
  refine Ev.bind (rows burst rate (by omega) (by omega) l (by omega) l.length [] 0 burst (by omega) (by omega) rfl hinv) ?_
  rintro _ ⟨d, t, q1, q2, rfl⟩
  refine Ev.bind (allSums burst rate (by omega) (by omega) d t (by omega) q2 d.length 0 (by omega)) ?_
  rintro _ rfl
  exact Ev.of (by simp [alive_is]) rfl
end Go.Proofs.YtjmebloeodcoaaaF11
