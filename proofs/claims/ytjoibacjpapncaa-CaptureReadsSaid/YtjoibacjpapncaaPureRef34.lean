/- What the references' numbers and bytes are: of the functions that text F34 prints. Conditions: none. -/
import Derived.Test.YtjoibacjpapncaaPurePack34
namespace Go.Proofs.YtjoibacjpapncaaF34
open Go Zed
set_option linter.unusedVariables false
set_option linter.unusedSimpArgs false
theorem refInner (b : List Int) (m : Nat) (hm : m ≤ b.length) (hm8 : m ≤ 8) (hb : Bytes b) : ∀ (k i : Nat) (x : Int), i + k = m →
    Ev (fun n => f125_broughamref02_Get_L5 n b m x i) (fun r => r = (b, (m : Int), ((b.take m).drop i).foldl st x))
  | 0, i, x, h => by
    apply Ev.succ
    simp only [f125_broughamref02_Get_L5]
    exact Ev.neg (by simp; omega) (Ev.some (by rw [List.drop_eq_nil_of_le (by simp; omega)]; rfl))
  | k + 1, i, x, h => by
    apply Ev.succ
    simp only [f125_broughamref02_Get_L5]
    have hi : i < (b.take m).length := by simp; omega
    have hc := hb _ (getD_mem (show i < b.length by omega) 0)
    have he : (b.take m).getD i 0 = b.getD i 0 := by simp only [List.getD]; rw [List.getElem?_take, if_pos (by omega)]
    refine Ev.pos (by simp; omega) (Ev.guard (by omega) ?_)
    rw [Int.toNat_natCast, w_u64, w_u64, w_u64, i64_id (show -9223372036854775808 ≤ (i : Int) + 1 by omega) (by omega), show (i : Int) + 1 = ((i + 1 : Nat) : Int) by omega]
    refine (refInner b m hm hm8 hb k (i + 1) _ (by omega)).mono ?_
    rintro _ rfl
    rw [drop_cons hi 0, List.foldl_cons, he]
    have : st x (b.getD i 0) = (x * 256 % 18446744073709551616 + b.getD i 0 % 18446744073709551616) % 18446744073709551616 := by unfold st; omega
    rw [this]
theorem refGet (b : List Int) (hbl : b.length ≤ 100000) (hb : Bytes b) (s : Int) : Ev (fun n => f125_broughamref02_Get n b s) (fun r => r = if 1 ≤ s ∧ s ≤ 8 ∧ s ≤ b.length then (num (b.take s.toNat), b.drop s.toNat, true) else (0, [], false)) := by
  simp only [f125_broughamref02_Get]
  refine Ev.ite (fun h1 => ?_) (fun h1 => Ev.ite (fun h2 => ?_) (fun h2 => Ev.ite (fun h3 => ?_) (fun h3 => ?_)))
  · simp only [decide_eq_true_eq] at h1
    exact Ev.some (by rw [if_neg (by omega)])
  · simp only [decide_eq_true_eq] at h1 h2
    exact Ev.some (by rw [if_neg (by omega)])
  · simp only [decide_eq_true_eq] at h1 h2 h3
    exact Ev.some (by rw [if_neg (by omega)])
  · simp only [decide_eq_true_eq] at h1 h2 h3
    have := refInner b s.toNat (by omega) (by omega) hb s.toNat 0 0 (by omega)
    rw [show ((s.toNat : Nat) : Int) = s by omega] at this
    refine Ev.bind this ?_
    rintro _ rfl
    dsimp only
    exact Ev.guard (by simp [cutOk]; omega) (Ev.some (by rw [if_pos (by omega), List.take_length]; rfl))
theorem refGets (sizes : List Int) (hs : sizes.length ≤ 200) : ∀ (k i : Nat) (b out : List Int), i + k = sizes.length → b.length ≤ 100000 → Bytes b → out.length ≤ i →
    Ev (fun n => f85_broughamref02_All_L3 n b sizes out i) (fun r => r = left out (go b (sizes.drop i)))
  | 0, i, b, out, h, hbl, hb, ho => by
    apply Ev.succ
    simp only [f85_broughamref02_All_L3]
    exact Ev.neg (by simp; omega) (Ev.some (by rw [List.drop_eq_nil_of_le (by omega)]; simp [go, left]))
  | k + 1, i, b, out, h, hbl, hb, ho => by
    apply Ev.succ
    simp only [f85_broughamref02_All_L3]
    have hi : i < sizes.length := by omega
    rw [drop_cons hi 0, Int.toNat_natCast]
    generalize sizes.getD i 0 = s
    simp only [go]
    refine Ev.pos (by simp; omega) (Ev.guard (by omega) (Ev.bind (refGet b hbl hb s) ?_))
    rintro _ rfl
    by_cases hc : 1 ≤ s ∧ s ≤ 8 ∧ s ≤ b.length
    · simp only [if_pos hc]
      refine Ev.neg (by simp) (Ev.guard (by simp [maxLen]; omega) ?_)
      rw [i64_id (show -9223372036854775808 ≤ (i : Int) + 1 by omega) (by omega), show (i : Int) + 1 = ((i + 1 : Nat) : Int) by omega]
      refine (refGets sizes hs k (i + 1) (b.drop s.toNat) (out ++ [num (b.take s.toNat)]) (by omega) (by simp; omega) (hb.drop _) (by simp; omega)).mono ?_
      rintro _ rfl
      exact left_map _ _ _
    · simp only [if_neg hc]
      exact Ev.pos (by simp) (Ev.some rfl)
theorem all_is (b sizes : List Int) (hbl : b.length ≤ 100000) (hb : Bytes b) (hs : sizes.length ≤ 200) : Ev (fun n => f85_broughamref02_All n b sizes) (fun r => r = ans (go b sizes)) := by
  simp only [f85_broughamref02_All]
  refine Ev.bind (refGets sizes hs sizes.length 0 b [] (by omega) hbl hb (by simp)) ?_
  rintro _ rfl
  rw [List.drop_zero]
  cases h : go b sizes with
  | none => exact Ev.some rfl
  | some p => exact Ev.some rfl
theorem refPut : ∀ (s : Nat) (b : List Int) (v : Int), s ≤ 8 → b.length ≤ 400000 → 0 ≤ v ∧ v < 18446744073709551616 → Ev (fun n => f82_broughamref02_Put_v2 n b v (s : Int)) (fun r => r = b ++ be s v)
  | 0, b, v, hs, hb, hv => by
    apply Ev.succ
    simp only [f82_broughamref02_Put_v2]
    exact Ev.pos (by simp) (Ev.some (by simp [be]))
  | s + 1, b, v, hs, hb, hv => by
    apply Ev.succ
    simp only [f82_broughamref02_Put_v2]
    rw [tdiv_e hv.1, tmod_e hv.1, u64_id (by omega) (by omega), i64_id (by omega) (by omega), u8_id (by omega) (by omega), show ((s + 1 : Nat) : Int) - 1 = s by omega]
    refine Ev.neg (by simp; omega) (Ev.neg (by simp; omega) (Ev.bind (refPut s b (v / 256) (by omega) hb (by omega)) ?_))
    rintro _ rfl
    have := be_len s (v / 256)
    exact Ev.guard (by simp [maxLen]; omega) (Ev.some (by simp [be]))
theorem refPut2 : ∀ (s : Nat) (v : Int), s ≤ 8 → 0 ≤ v ∧ v < 18446744073709551616 → Ev (fun n => f82_broughamref02_Put n v (s : Int)) (fun r => r = be s v)
  | 0, v, hs, hv => by
    apply Ev.succ
    simp only [f82_broughamref02_Put]
    exact Ev.pos (by simp) (Ev.some (by simp [be]))
  | s + 1, v, hs, hv => by
    apply Ev.succ
    simp only [f82_broughamref02_Put]
    rw [tdiv_e hv.1, tmod_e hv.1, u64_id (by omega) (by omega), i64_id (by omega) (by omega), u8_id (by omega) (by omega), show ((s + 1 : Nat) : Int) - 1 = s by omega]
    refine Ev.neg (by simp; omega) (Ev.neg (by simp; omega) (Ev.bind (refPut2 s (v / 256) (by omega) (by omega)) ?_))
    rintro _ rfl
    have := be_len s (v / 256)
    exact Ev.guard (by simp [maxLen]; omega) (Ev.some (by simp [be]))
end Go.Proofs.YtjoibacjpapncaaF34
