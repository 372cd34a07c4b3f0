/- RtoBacks: one waits twice as long each time: of the functions that text F12 prints. Conditions: none. -/
import Derived.Test.YtjmebloeodcoaaaF12
import Derived.Test.YtjmebloeodcoaaaZedPa
namespace Go.Proofs.YtjmebloeodcoaaaF12
open Go Zed
set_option linter.unusedVariables false

theorem alive_is : f41_broughamlaw12_alive = some true := by decide +kernel

/-- What one waits, without the times that no word came. -/
def base (a b : Int) (c : Bool) : Int := if c = true then (if (a / 8 + (if 1 < b then b else 1)) < 2 then 2 else (a / 8 + (if 1 < b then b else 1))) else 8
def pat (p : Int) (s : Nat) : Int := if 256 < p * 2 ^ s then 256 else p * 2 ^ s
def Good (a b : Int) : Prop := 0 ≤ a ∧ a ≤ 32768 ∧ 0 ≤ b ∧ b ≤ 16384

theorem sample_is (t a b : Int) (c : Bool) (s : Int) (h : Good a b) : ∃ a' b' c', Good a' b' ∧ f37_rto_Est_Sample t a b c s = some (a', b', c', 0) := by
  obtain ⟨h1, h2, h3, h4⟩ := h
  unfold f37_rto_Est_Sample
  have hx : ∃ x : Int, 0 ≤ x ∧ x ≤ 4096 ∧ x = (if 4096 < (if t < 0 then 0 else t) then 4096 else (if t < 0 then 0 else t)) := ⟨_, by omega, by omega, rfl⟩
  obtain ⟨x, x0, x1, hx⟩ := hx
  rw [← hx]
  simp only [tdiv_e h1, tdiv_e h3]
  rw [i64_id (show -9223372036854775808 ≤ a / 8 by omega) (by omega), i64_id (show -9223372036854775808 ≤ b / 4 by omega) (by omega), i64_id (show -9223372036854775808 ≤ x - a / 8 by omega) (by omega),
    i64_id (show -9223372036854775808 ≤ a + (x - a / 8) by omega) (by omega), i64_id (show -9223372036854775808 ≤ 0 - (x - a / 8) by omega) (by omega), i64_id (show -9223372036854775808 ≤ b + (0 - (x - a / 8)) by omega) (by omega), i64_id (show -9223372036854775808 ≤ b + (x - a / 8) by omega) (by omega),
    i64_id (show -9223372036854775808 ≤ b + (0 - (x - a / 8)) - b / 4 by omega) (by omega), i64_id (show -9223372036854775808 ≤ b + (x - a / 8) - b / 4 by omega) (by omega), i64_id (show -9223372036854775808 ≤ x * 8 by omega) (by omega), i64_id (show -9223372036854775808 ≤ x * 2 by omega) (by omega)]
  split
  · exact ⟨_, _, _, ⟨by omega, by omega, by omega, by omega⟩, rfl⟩
  · split
    · rename_i hd
      simp only [decide_eq_true_eq] at hd
      exact ⟨_, _, _, ⟨by omega, by omega, by omega, by omega⟩, rfl⟩
    · rename_i hd
      simp only [decide_eq_true_eq] at hd
      exact ⟨_, _, _, ⟨by omega, by omega, by omega, by omega⟩, rfl⟩

theorem base_in (a b : Int) (c : Bool) (h : Good a b) : 2 ≤ base a b c ∧ base a b c ≤ 20480 := by
  obtain ⟨h1, h2, h3, h4⟩ := h
  unfold base
  split <;> omega

theorem pow_in (s : Nat) (hs : s ≤ 8) : (1 : Int) ≤ 2 ^ s ∧ (2 : Int) ^ s ≤ 256 := by
  match s, hs with
  | 0, _ | 1, _ | 2, _ | 3, _ | 4, _ | 5, _ | 6, _ | 7, _ | 8, _ => decide

theorem patience_is (a b : Int) (c : Bool) (s : Nat) (hs : s ≤ 8) (h : Good a b) : f38_rto_Est_Patience a b c s = some (pat (base a b c) s, a, b, c, (s : Int)) := by
  have hb := base_in a b c h
  obtain ⟨h1, h2, h3, h4⟩ := h
  have hm : min (Int.toNat (s : Int)) (IntKind.bits .i64) = s := by simp [IntKind.bits]; omega
  have hp := pow_in s hs
  have hr : 0 ≤ base a b c * 2 ^ s ∧ base a b c * 2 ^ s ≤ 20480 * 256 := ⟨Int.mul_nonneg (by omega) (by omega), Int.mul_le_mul hb.2 hp.2 (by omega) (by omega)⟩
  unfold f38_rto_Est_Patience
  simp only [hm, tdiv_e h1]
  by_cases hc : c = true
  · rw [if_pos hc, if_pos (by omega)]
    have hbb : base a b c = (if (a / 8 + (if 1 < b then b else 1)) < 2 then 2 else (a / 8 + (if 1 < b then b else 1))) := by unfold base; rw [if_pos hc]
    rw [i64_id (show -9223372036854775808 ≤ a / 8 by omega) (by omega), i64_id (show -9223372036854775808 ≤ a / 8 + (if 1 < b then b else 1) by omega) (by omega), ← hbb, i64_id (by omega) (by omega)]
    rfl
  · rw [if_neg hc, if_pos (by omega)]
    have hbb : base a b c = 8 := by unfold base; rw [if_neg hc]
    rw [hbb] at hr
    simp only [show ¬ ((8 : Nat) < 2) by decide, if_false, hbb]
    rw [i64_id (by omega) (by omega)]
    rfl

theorem samples (l : List Int) (hl : l.length ≤ 100) (backs : Int) : ∀ (k : Nat) (i a b : Int) (c : Bool), 0 ≤ i → i + k = l.length → Good a b →
    Ev (fun n => f10_broughamlaw12_RtoBacks_L5 n l backs i a b c 0) (fun r => ∃ a b c, Good a b ∧ r = (backs, a, b, c, 0))
  | 0, i, a, b, c, h0, hi, hg => by
    apply Ev.succ
    simp only [f10_broughamlaw12_RtoBacks_L5]
    exact Ev.neg (by simp; omega) (Ev.some ⟨a, b, c, hg, rfl⟩)
  | k + 1, i, a, b, c, h0, hi, hg => by
    apply Ev.succ
    simp only [f10_broughamlaw12_RtoBacks_L5]
    obtain ⟨a', b', c', hg', e⟩ := sample_is (l.getD i.toNat 0) a b c 0 hg
    simp only [e, Option.bind_some]
    rw [i64_id (show -9223372036854775808 ≤ i + 1 by omega) (by omega)]
    exact Ev.pos (by simp; omega) (Ev.guard (by omega) (samples l hl backs k (i + 1) a' b' c' (by omega) (by omega) hg'))

theorem pat_in (p : Int) (s : Nat) (hp : 2 ≤ p) : 0 ≤ pat p s ∧ pat p s ≤ 256 := by
  have : 0 ≤ p * 2 ^ s := Int.mul_nonneg (by omega) (Int.pow_nonneg (by decide))
  unfold pat; split <;> omega
theorem pat_succ (p : Int) (s : Nat) (hp : 2 ≤ p) : pat p (s + 1) = if 2 * pat p s > 256 then 256 else 2 * pat p s := by
  have h0 : 0 ≤ p * 2 ^ s := Int.mul_nonneg (by omega) (Int.pow_nonneg (by decide))
  have e : p * 2 ^ (s + 1) = 2 * (p * 2 ^ s) := by rw [Int.pow_succ, ← Int.mul_assoc, Int.mul_comm]
  unfold pat
  rw [e]
  generalize p * 2 ^ s = x at *
  split <;> split <;> first | omega | (split <;> omega)

theorem backs_are (backs : Int) (hb : backs ≤ 20) (a b : Int) (c : Bool) (hg : Good a b) : ∀ (k i : Nat), (i : Int) + k = backs →
    Ev (fun n => f10_broughamlaw12_RtoBacks_L10 n backs (pat (base a b c) (min i 8)) i a b c ((min i 8 : Nat) : Int)) (fun r => ∃ s : Int, r = .inr (a, b, c, s))
  | 0, i, hi => by
    apply Ev.succ
    simp only [f10_broughamlaw12_RtoBacks_L10]
    exact Ev.neg (by simp; omega) (Ev.some ⟨_, rfl⟩)
  | k + 1, i, hi => by
    apply Ev.succ
    simp only [f10_broughamlaw12_RtoBacks_L10, f39_rto_Est_Back, Option.bind_some]
    have hbb := base_in a b c hg
    have hpi := pat_in (base a b c) (min i 8) hbb.1
    have hs : (if 8 < IntKind.wrap .i64 (((min i 8 : Nat) : Int) + 1) then 8 else IntKind.wrap .i64 (((min i 8 : Nat) : Int) + 1)) = ((min (i + 1) 8 : Nat) : Int) := by rw [i64_id (by omega) (by omega)]; omega
    have hq := patience_is a b c (min (i + 1) 8) (by omega) hg
    have ih := backs_are backs hb a b c hg k (i + 1) (by omega)
    rw [hs]
    simp only [hq, Option.bind_some]
    rw [i64_id (show -9223372036854775808 ≤ (i : Int) + 1 by omega) (by omega), i64_id (show -9223372036854775808 ≤ 2 * pat (base a b c) (min i 8) by omega) (by omega), tdiv_e (by omega), show 2 * pat (base a b c) (min i 8) / 2 = pat (base a b c) (min i 8) by omega, i64_id (by omega) (by omega)]
    refine Ev.pos (by simp; omega) (Ev.ite (fun h8 => ?_) (fun h8 => ?_))
    · simp only [ge_iff_le, decide_eq_true_eq] at h8
      have e : pat (base a b c) (min (i + 1) 8) = pat (base a b c) (min i 8) := by rw [show min (i + 1) 8 = 8 by omega, show min i 8 = 8 by omega]
      rw [e] at ih ⊢
      exact Ev.neg (by simp; omega) (Ev.neg (by simp only [bne_self_eq_false, Bool.false_eq_true, not_false_iff]) (by rw [show (i : Int) + 1 = ((i + 1 : Nat) : Int) by omega]; exact ih))
    · simp only [ge_iff_le, decide_eq_true_eq] at h8
      have e : pat (base a b c) (min (i + 1) 8) = if 2 * pat (base a b c) (min i 8) > 256 then 256 else 2 * pat (base a b c) (min i 8) := by rw [show min (i + 1) 8 = min i 8 + 1 by omega]; exact pat_succ _ _ hbb.1
      refine Ev.ite (fun h => ?_) (fun h => ?_)
      · simp only [decide_eq_true_eq] at h
        rw [if_pos h] at e
        rw [e] at ih ⊢
        exact Ev.neg (by simp only [bne_self_eq_false, Bool.false_eq_true, not_false_iff]) (by rw [show (i : Int) + 1 = ((i + 1 : Nat) : Int) by omega]; exact ih)
      · simp only [decide_eq_true_eq] at h
        rw [if_neg h] at e
        rw [e] at ih ⊢
        exact Ev.neg (by simp only [bne_self_eq_false, Bool.false_eq_true, not_false_iff]) (by rw [show (i : Int) + 1 = ((i + 1 : Nat) : Int) by omega]; exact ih)

theorem RtoBacks (l : List Int) (h0 : K.ok (.slice (.int .i64)) l) (backs : Int) (h1 : K.ok (.int .i64) backs) : ∃ n, f10_broughamlaw12_RtoBacks n l backs = some true := by
  apply Ev.true
  simp only [f10_broughamlaw12_RtoBacks]
  refine Ev.ite (fun _ => Ev.some rfl) fun a1 => Ev.ite (fun _ => Ev.some rfl) fun a2 => Ev.ite (fun _ => Ev.some rfl) fun a3 => ?_
  simp only [decide_eq_true_eq] at a1 a2 a3
  refine Ev.bind (samples l (by omega) backs l.length 0 0 0 false (by omega) (by omega) ⟨by decide, by decide, by decide, by decide⟩) ?_
  rintro _ ⟨a, b, c, hg, rfl⟩
  have hq := patience_is a b c 0 (by omega) hg
  simp only [Int.natCast_zero] at hq
  simp only [hq, Option.bind_some]
  have := backs_are backs (by omega) a b c hg backs.toNat 0 (by omega)
  refine Ev.bind (by exact_mod_cast this) ?_
  rintro _ ⟨s, rfl⟩
  obtain ⟨a', b', c', hg', e⟩ := sample_is 1 a b c s hg
  simp only [e, f40_rto_Est_Backs, Option.bind_some, alive_is]
  exact Ev.pos rfl (Ev.some rfl)
end Go.Proofs.YtjmebloeodcoaaaF12
