/- SerialOrders: how far two numbers are apart, which is ahead, which lie within others: as the reference says. Conditions: none. -/
import Derived.Test.YtjmebloeodcoaaaPSerialOrdersx2
namespace Go.Proofs.Ytjmebloeodcoaaa.Pure
open Go.RowKit Go.Proofs.Ytjmebloeodcoaaa.PSerialOrders Go.Proofs.YtjmebloeodcoaaaW.PrintWords Go.Proofs.YtjmebloeodcoaaaW.PrintLast

namespace SerialOrders

theorem bd_u64 {n : Int} (h : (Lit.int .u64 n).wf = true) : 0 ≤ n ∧ n < 18446744073709551616 := by
  simp [Lit.wf, IntKind.min, IntKind.max, IntKind.signed, IntKind.bits] at h; omega
theorem bd_u32 {n : Int} (h : (Lit.int .u32 n).wf = true) : 0 ≤ n ∧ n < 4294967296 := by
  simp [Lit.wf, IntKind.min, IntKind.max, IntKind.signed, IntKind.bits] at h; omega
theorem bd_i64 {n : Int} (h : (Lit.int .i64 n).wf = true) : -9223372036854775808 ≤ n ∧ n < 9223372036854775808 := by
  simp [Lit.wf, IntKind.min, IntKind.max, IntKind.signed, IntKind.bits] at h; omega

/-- How far the low bits are ahead of the near number's, going round. -/
def dd (x low : Int) : Int := ((low - x % 4294967296) % 4294967296 + 2147483648) % 4294967296 - 2147483648

def W (x d : Int) : Int :=
  if d < 0 ∧ -d > x then x + d + 4294967296
  else if d = -2147483648 ∧ x + 2147483648 < 18446744073709551616 then x + 2147483648
  else if d > 0 ∧ x + d ≥ 18446744073709551616 then x + d - 4294967296
  else x + d

theorem diff_is (a b : Int) : serial_Diff.f a b = some (((a - b) % 4294967296 + 2147483648) % 4294967296 - 2147483648) := by
  unfold serial_Diff.f wrap64 wrap32
  congr 1
  omega

theorem dd_bounds (x low : Int) : -2147483648 ≤ dd x low ∧ dd x low < 2147483648 := by unfold dd; omega

theorem j1_is (k : Nat) (x d : Int) (b : Bool) (h0 : 0 ≤ x) (h1 : x < 18446744073709551616) (b1 : -2147483648 ≤ d) (b2 : d < 2147483648) (hb : b = true ↔ (d = -2147483648 ∧ x + 2147483648 < 18446744073709551616)) (hn : ¬ (d < 0 ∧ -d > x)) :
    serial_Wide.j1 (k + 1) x d b = some (W x d) := by
  simp only [serial_Wide.j1, IntKind.wrap_u64, W, if_neg hn]
  by_cases hc : b = true
  · have hq := hb.1 hc
    rw [if_pos hc, if_pos hq]
    congr 1; omega
  · have hd : ¬ (d = -2147483648 ∧ x + 2147483648 < 18446744073709551616) := fun h => hc (hb.2 h)
    rw [if_neg hc, if_neg hd]
    split
    · split
      · rw [if_pos (by omega)]; congr 1; omega
      · rw [if_neg (by omega)]; congr 1; omega
    · rw [if_neg (by omega)]; congr 1; omega

theorem j0_is (k : Nat) (x d : Int) (b : Bool) (h0 : 0 ≤ x) (h1 : x < 18446744073709551616) (b1 : -2147483648 ≤ d) (b2 : d < 2147483648) (hb : b = true ↔ (d < 0 ∧ -d > x)) :
    serial_Wide.j0 (k + 2) x d b = some (W x d) := by
  simp only [serial_Wide.j0, IntKind.wrap_u64]
  by_cases hc : b = true
  · rw [if_pos hc]; simp only [W, if_pos (hb.1 hc)]
    congr 1; unfold wrap64; have := hb.1 hc; omega
  · have hd := fun h => hc (hb.2 h)
    rw [if_neg hc]
    split
    · rename_i he
      refine j1_is k x d _ h0 h1 b1 b2 ?_ hd
      rw [decide_eq_true_iff]; omega
    · rename_i he
      refine j1_is k x d _ h0 h1 b1 b2 ?_ hd
      simp [he]

theorem wide_is (k : Nat) (x low : Int) (h0 : 0 ≤ x) (h1 : x < 18446744073709551616) : serial_Wide.f (k + 2) x low = some (W x (dd x low)) := by
  obtain ⟨b1, b2⟩ := dd_bounds x low
  have hd : dd x low = ((low - x % 4294967296) % 4294967296 + 2147483648) % 4294967296 - 2147483648 := rfl
  unfold serial_Wide.f
  rw [diff_is, ← hd, Option.bind_some]
  generalize dd x low = d at *
  split
  · refine j0_is k x d _ h0 h1 b1 b2 ?_
    rw [decide_eq_true_iff, IntKind.wrap_u64]; unfold wrap64; omega
  · refine j0_is k x d _ h0 h1 b1 b2 ?_
    simp; omega

theorem alive_is (k : Nat) : broughamlaw04_alive.f (k + 2) = some true := by
  unfold broughamlaw04_alive.f
  rw [wide_is k 4294967296 4294967295 (by decide) (by decide)]
  unfold serial_Max.f serial_Between.f serial_Less.f wrap32
  decide


theorem less_is (a b : Int) : serial_Less.f a b = some (decide (((a - b) % 4294967296 + 2147483648) % 4294967296 - 2147483648 < 0)) := by
  unfold serial_Less.f wrap32; rfl

theorem rdiff_is (a b : Int) (a0 : 0 ≤ a) (a1 : a < 4294967296) (b0 : 0 ≤ b) (b1 : b < 4294967296) : broughamref04_Diff.f a b = some (((a - b) % 4294967296 + 2147483648) % 4294967296 - 2147483648) := by
  unfold broughamref04_Diff.f
  have e1 : wrap64 a = a := by unfold wrap64; omega
  have e2 : wrap64 b = b := by unfold wrap64; omega
  have e3 : wrap64 (a - b) = a - b := by unfold wrap64; omega
  rw [e1, e2, e3]
  unfold wrap64
  repeat' split
  all_goals (congr 1; omega)

theorem ahead_is (a b : Int) (a0 : 0 ≤ a) (a1 : a < 4294967296) (b0 : 0 ≤ b) (b1 : b < 4294967296) : broughamref04_ahead.f a b = some ((b - a) % 4294967296) := by
  unfold broughamref04_ahead.f
  have e1 : wrap64 a = a := by unfold wrap64; omega
  have e2 : wrap64 b = b := by unfold wrap64; omega
  have e3 : wrap64 (b - a) = b - a := by unfold wrap64; omega
  rw [e1, e2, e3]
  unfold wrap64
  split
  all_goals (congr 1; omega)

theorem within_is (x a s : Int) (a0 : 0 ≤ a) (a1 : a < 4294967296) (b0 : 0 ≤ x) (b1 : x < 4294967296) (s0 : 0 ≤ s) (s1 : s < 4294967296) : broughamref04_Within.f x a s = some (decide ((x - a) % 4294967296 < s)) := by
  unfold broughamref04_Within.f
  have e1 : wrap64 s = s := by unfold wrap64; omega
  rw [ahead_is a x a0 a1 b0 b1, e1, Option.bind_some]

theorem between_is (x a b : Int) (x0 : 0 ≤ x) (x1 : x < 4294967296) (a0 : 0 ≤ a) (a1 : a < 4294967296) (b0 : 0 ≤ b) (b1 : b < 4294967296) : ∃ r, serial_Between.f x a b = some r ∧ broughamref04_Between.f x a b = some r := by
  unfold serial_Between.f broughamref04_Between.f
  rw [rdiff_is b a b0 b1 a0 a1, ahead_is a x a0 a1 x0 x1, ahead_is a b a0 a1 b0 b1, less_is]
  simp only [Option.bind_some]
  by_cases h1 : x = a
  · subst h1
    refine ⟨false, by simp, ?_⟩
    split <;> simp
  · simp only [if_neg h1]
    by_cases h2 : (x - a) % 4294967296 ≤ (b - a) % 4294967296
    · by_cases h3 : ((b - a) % 4294967296 + 2147483648) % 4294967296 - 2147483648 ≥ 0
      · refine ⟨true, ?_, ?_⟩
        · rw [if_pos h2, decide_eq_false (by omega)]; rfl
        · rw [if_pos h3, decide_eq_true h2]
      · refine ⟨false, ?_, ?_⟩
        · rw [if_pos h2, decide_eq_true (by omega)]; rfl
        · rw [if_neg h3]
    · refine ⟨false, by rw [if_neg h2], ?_⟩
      split
      · rw [decide_eq_false h2]
      · rfl

theorem o1_is (k : Nat) (a b c : Int) (a0 : 0 ≤ a) (a1 : a < 4294967296) (b0 : 0 ≤ b) (b1 : b < 4294967296) (c0 : 0 ≤ c) (c1 : c < 4294967296) (m : Int) (hm : m = if ((a - b) % 4294967296 + 2147483648) % 4294967296 - 2147483648 < 0 then b else a) (n : Bool) (hn : n = (decide ((a - b) % 4294967296 < c) || decide ((b - a) % 4294967296 < c))) :
    broughamlaw04_SerialOrders.j1 (k + 3) a b c (((a - b) % 4294967296 + 2147483648) % 4294967296 - 2147483648) m n = some true := by
  obtain ⟨r, e1, e2⟩ := between_is a b c a0 a1 b0 b1 c0 c1
  have hmax : serial_Max.f a b = some m := by
    unfold serial_Max.f; rw [less_is, hm]; simp only [Option.bind_some, decide_eq_true_eq]
    split <;> rfl
  have hw : serial_Within.f a b c = some (decide ((a - b) % 4294967296 < c)) := rfl
  have hnear : serial_Near.f a b c = some n := by
    unfold serial_Near.f
    have hw2 : serial_Within.f b a c = some (decide ((b - a) % 4294967296 < c)) := rfl
    rw [hw, hw2, hn]
    simp only [Option.bind_some]
    by_cases h : (a - b) % 4294967296 < c
    · simp [h]
    · simp [h]
  simp only [broughamlaw04_SerialOrders.j1]
  rw [diff_is, less_is, hmax, hw, within_is a b c b0 b1 a0 a1 c0 c1, hnear, e1, e2, alive_is k]
  simp

end SerialOrders

theorem SerialOrders : broughamlaw04_SerialOrders.Pure := by
  intro a b c wa wb wc
  obtain ⟨ha0, ha1⟩ := SerialOrders.bd_u32 wa
  obtain ⟨hb0, hb1⟩ := SerialOrders.bd_u32 wb
  obtain ⟨hc0, hc1⟩ := SerialOrders.bd_u32 wc
  refine ⟨4, ?_⟩
  have j0 : ∀ m, m = (if ((a - b) % 4294967296 + 2147483648) % 4294967296 - 2147483648 < 0 then b else a) → broughamlaw04_SerialOrders.j0 4 a b c (((a - b) % 4294967296 + 2147483648) % 4294967296 - 2147483648) m = some true := by
    intro m hm
    simp only [broughamlaw04_SerialOrders.j0]
    rw [SerialOrders.within_is a b c hb0 hb1 ha0 ha1 hc0 hc1, SerialOrders.within_is b a c ha0 ha1 hb0 hb1 hc0 hc1]
    simp only [Option.bind_some]
    split
    · rename_i h
      exact SerialOrders.o1_is 0 a b c ha0 ha1 hb0 hb1 hc0 hc1 m hm true (by rw [h]; rfl)
    · rename_i h
      exact SerialOrders.o1_is 0 a b c ha0 ha1 hb0 hb1 hc0 hc1 m hm _ (by simp only [Bool.not_eq_true] at h; rw [h]; rfl)
  unfold broughamlaw04_SerialOrders.f
  rw [SerialOrders.rdiff_is a b ha0 ha1 hb0 hb1]
  simp only [Option.bind_some]
  split
  · rename_i h; exact j0 b (by rw [if_pos h])
  · rename_i h; exact j0 a (by rw [if_neg h])

end Go.Proofs.Ytjmebloeodcoaaa.Pure
