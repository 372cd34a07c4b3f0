/- QuarForgets: behind so many ticks nothing is left: of the functions that text F14 prints. Conditions: none. -/
import Derived.Test.YtjmebloeodcoaaaF14
import Derived.Test.YtjmebloeodcoaaaZedPa
namespace Go.Proofs.YtjmebloeodcoaaaF14
open Go Zed

theorem add_is (w p l q : Int) (hp : 0 ≤ p ∧ p ≤ 4 * l) (hl : 1 ≤ l ∧ l ≤ 100) : ∃ p', 0 ≤ p' ∧ p' ≤ 4 * l ∧ f16_quar_Score_Add w p l q = some (p', l, q) := by
  unfold f16_quar_Score_Add
  refine ⟨_, ?_, ?_, rfl⟩
  · simp only [w_i64]; omega
  · simp only [w_i64]; omega

theorem tick_is (p l q : Int) (hp : 0 ≤ p ∧ p ≤ 400) (hq : 0 ≤ q ∧ q < 8) : f18_quar_Score_Tick 1 p l q = some (if q = 7 then (if p = 0 then 0 else p - 1, l, 0) else (p, l, q + 1)) := by
  unfold f18_quar_Score_Tick
  have h1 : IntKind.wrap .i64 (q + 1) = q + 1 := i64_id (by omega) (by omega)
  simp only [show ¬ ((1 : Int) < 0) by decide, if_false, show ¬ ((4096 : Int) < 1) by decide, h1, tdiv_e (show 0 ≤ q + 1 by omega), tmod_e (show 0 ≤ q + 1 by omega)]
  by_cases h7 : q = 7
  · subst h7
    rw [if_pos rfl]
    by_cases hp0 : p = 0
    · subst hp0; rfl
    · simp only [w_i64, if_neg hp0]
      congr 2
      omega
  · rw [if_neg h7]
    have : (q + 1) / 8 = 0 := by omega
    rw [this]
    simp only [w_i64]
    congr 2
    · omega
    · congr 1; omega

theorem adds (limit : Int) (l : List Int) (hl : 1 ≤ limit ∧ limit ≤ 100) (hlen : l.length ≤ 100) : ∀ (k : Nat) (i p : Int), 0 ≤ i → i + k = l.length → 0 ≤ p ∧ p ≤ 4 * limit →
    Ev (fun n => f3_broughamlaw14_QuarForgets_L7 n limit l i p limit 0) (fun r => ∃ p', 0 ≤ p' ∧ p' ≤ 4 * limit ∧ r = .inr (limit, p', limit, 0))
  | 0, i, p, h0, hi, hp => by
    apply Ev.succ
    simp only [f3_broughamlaw14_QuarForgets_L7]
    refine Ev.neg (by simp; omega) (Ev.some ⟨p, hp.1, hp.2, rfl⟩)
  | k + 1, i, p, h0, hi, hp => by
    apply Ev.succ
    simp only [f3_broughamlaw14_QuarForgets_L7]
    refine Ev.pos (by simp; omega) (Ev.guard (by omega) ?_)
    obtain ⟨p', h1, h2, h3⟩ := add_is (l.getD i.toNat 0) p limit 0 hp hl
    simp only [h3, f17_quar_Score_Points, Option.bind_some]
    refine Ev.neg (by simp only [w_i64, decide_eq_true_eq]; omega) (Ev.neg (by simp; omega) ?_)
    rw [i64_id (by omega) (by omega)]
    exact adds limit l hl hlen k (i + 1) p' (by omega) (by omega) ⟨h1, h2⟩

theorem ticks (limit : Int) (hl : 1 ≤ limit ∧ limit ≤ 100) : ∀ (k : Nat) (i p q : Int), 0 ≤ i → i + k = 32 * limit → 0 ≤ p ∧ p ≤ 400 ∧ 0 ≤ q ∧ q < 8 ∧ q = i % 8 ∧ p ≤ 4 * limit - i / 8 → 
    Ev (fun n => f3_broughamlaw14_QuarForgets_L13 n limit i p limit q) (fun r => ∃ q, r = .inr (0, limit, q))
  | 0, i, p, q, h0, hi, hp => by
    apply Ev.succ
    simp only [f3_broughamlaw14_QuarForgets_L13]
    refine Ev.neg (by simp only [w_i64, decide_eq_true_eq]; omega) (Ev.some ⟨q, ?_⟩)
    have : p = 0 := by omega
    rw [this]
  | k + 1, i, p, q, h0, hi, hp => by
    apply Ev.succ
    simp only [f3_broughamlaw14_QuarForgets_L13, f17_quar_Score_Points, Option.bind_some]
    refine Ev.pos (by simp only [w_i64, decide_eq_true_eq]; omega) ?_
    rw [tick_is p limit q (by omega) (by omega)]
    simp only [Option.bind_some]
    rw [i64_id (show -9223372036854775808 ≤ i + 1 by omega) (by omega)]
    refine Ev.neg (by simp only [decide_eq_true_eq]; split <;> (try split) <;> simp <;> omega) ?_
    split
    · exact ticks limit hl k (i + 1) _ 0 (by omega) (by omega) (by split <;> omega)
    · exact ticks limit hl k (i + 1) p (q + 1) (by omega) (by omega) (by omega)

theorem alive_is : f20_broughamlaw14_alive = some true := by decide +kernel

theorem QuarForgets (limit : Int) (h0 : K.ok (.int .i64) limit) (l : List Int) (h1 : K.ok (.slice (.int .i64)) l) : ∃ n, f3_broughamlaw14_QuarForgets n limit l = some true := by
  apply Ev.true
  simp only [f3_broughamlaw14_QuarForgets]
  refine Ev.ite (fun _ => Ev.some rfl) fun a1 => Ev.ite (fun _ => Ev.some rfl) fun a2 => Ev.ite (fun _ => Ev.some rfl) fun a3 => ?_
  simp only [decide_eq_true_eq] at a1 a2 a3
  have e : f15_quar_New limit = some (0, limit, 0) := by
    unfold f15_quar_New; simp; omega
  simp only [e, Option.bind_some]
  refine Ev.bind (adds limit l (by omega) (by omega) l.length 0 0 (by omega) (by omega) (by omega)) ?_
  rintro _ ⟨p', q1, q2, rfl⟩
  refine Ev.bind (ticks limit (by omega) (32 * limit).toNat 0 p' 0 (by omega) (by omega) (by omega)) ?_
  rintro _ ⟨q, rfl⟩
  simp only [f17_quar_Score_Points, f19_quar_Score_Bad, alive_is, Option.bind_some]
  refine Ev.pos rfl (Ev.pos (by simp; omega) (Ev.some rfl))
end Go.Proofs.YtjmebloeodcoaaaF14
