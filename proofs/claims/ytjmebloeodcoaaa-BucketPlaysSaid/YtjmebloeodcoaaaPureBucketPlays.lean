/- BucketPlays: a bucket has the document's tokens, whatever is taken: of the functions that text F11 prints. Conditions: none. -/
import Derived.Test.YtjmebloeodcoaaaF11
import Derived.Test.YtjmebloeodcoaaaZedPa
namespace Go.Proofs.YtjmebloeodcoaaaF11
open Go Zed
set_option linter.unusedVariables false

theorem alive_is : f28_broughamlaw11_alive = some true := by decide +kernel

theorem within_is (x : Int) : f59_broughamref11_Within x = some (if 4096 < (if x < 0 then 0 else x) then 4096 else (if x < 0 then 0 else x)) := by
  unfold f59_broughamref11_Within
  simp only [decide_eq_true_eq]
  split
  · simp
  · split
    · rfl
    · rfl

theorem new_is (b r : Int) : f22_broughamref11_New b r = f21_bucket_New b r := by
  simp only [f22_broughamref11_New, within_is, Option.bind_some, f21_bucket_New]

theorem tick_is (x b r t : Int) : f26_broughamref11_Tick b r t x = f25_bucket_Bucket_Tick x b r t := by
  simp only [f26_broughamref11_Tick, f25_bucket_Bucket_Tick, within_is, Option.bind_some, decide_eq_true_eq, gt_iff_lt]
  generalize IntKind.wrap .i64 (t + _) = y
  split <;> rfl

theorem plays (l : List Int) (hlen : l.length ≤ 1000) : ∀ (k : Nat) (i b r t : Int), 0 ≤ i → i + k = l.length → Ev (fun n => f4_broughamlaw11_BucketPlays_L6 n l i b r t b r t) (fun r => r = .inr ())
  | 0, i, b, r, t, h0, hi => by
    apply Ev.succ
    simp only [f4_broughamlaw11_BucketPlays_L6]
    exact Ev.neg (by simp; omega) (Ev.some rfl)
  | k + 1, i, b, r, t, h0, hi => by
    apply Ev.succ
    simp only [f4_broughamlaw11_BucketPlays_L6]
    rw [i64_id (show -9223372036854775808 ≤ i + 1 by omega) (by omega)]
    refine Ev.pos (by simp; omega) (Ev.guard (by omega) (Ev.ite (fun _ => ?_) (fun _ => Ev.guard (by omega) ?_)))
    · simp only [f23_broughamref11_Take, f24_bucket_Bucket_Take, f27_bucket_Bucket_Left]
      by_cases ht : (t == 0) = true
      · simp only [if_pos ht, Option.bind_some]
        exact Ev.neg (by simp) (Ev.neg (by simp) (plays l hlen k (i + 1) _ _ _ (by omega) (by omega)))
      · simp only [if_neg ht, Option.bind_some]
        exact Ev.neg (by simp) (Ev.neg (by simp) (plays l hlen k (i + 1) _ _ _ (by omega) (by omega)))
    · simp only [tick_is, f25_bucket_Bucket_Tick, f27_bucket_Bucket_Left, Option.bind_some]
      exact Ev.guard (by omega) (Ev.neg (by simp) (plays l hlen k (i + 1) _ _ _ (by omega) (by omega)))

theorem BucketPlays (burst : Int) (h0 : K.ok (.int .i64) burst) (rate : Int) (h1 : K.ok (.int .i64) rate) (l : List Int) (h2 : K.ok (.slice (.int .i64)) l) : ∃ n, f4_broughamlaw11_BucketPlays n burst rate l = some true := by
  apply Ev.true
  simp only [f4_broughamlaw11_BucketPlays, new_is]
  simp only [f21_bucket_New, Option.bind_some]
  refine Ev.ite (fun _ => Ev.some rfl) fun a => ?_
  simp only [decide_eq_true_eq] at a
  refine Ev.bind (plays l (by omega) l.length 0 _ _ _ (by omega) (by omega)) ?_
  rintro _ rfl
  exact Ev.of (by simp [alive_is]) rfl
end Go.Proofs.YtjmebloeodcoaaaF11
