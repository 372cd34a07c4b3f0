/- SerialHome: a number is found again by its lowest 32 bits from any number less than half the way round away. Conditions: none. -/
import Derived.Test.YtjmebloeodcoaaaPSerialHomex1
namespace Go.Proofs.Ytjmebloeodcoaaa.Pure
open Go.RowKit Go.Proofs.Ytjmebloeodcoaaa.PSerialHome Go.Proofs.YtjmebloeodcoaaaW.PrintWords Go.Proofs.YtjmebloeodcoaaaW.PrintLast

namespace SerialHome

theorem bd_u64 {n : Int} (h : (Lit.int .u64 n).wf = true) : 0 ≤ n ∧ n < 18446744073709551616 := by
  simp [Lit.wf, IntKind.min, IntKind.max, IntKind.signed, IntKind.bits] at h; omega
theorem bd_u32 {n : Int} (h : (Lit.int .u32 n).wf = true) : 0 ≤ n ∧ n < 4294967296 := by
  simp [Lit.wf, IntKind.min, IntKind.max, IntKind.signed, IntKind.bits] at h; omega
theorem bd_i64 {n : Int} (h : (Lit.int .i64 n).wf = true) : -9223372036854775808 ≤ n ∧ n < 9223372036854775808 := by
  simp [Lit.wf, IntKind.min, IntKind.max, IntKind.signed, IntKind.bits] at h; omega

/-- How far the low bits are ahead of the near number's, going round. -/
def dd (x low : Int) : Int := ((low - x % 4294967296) % 4294967296 + 2147483648) % 4294967296 - 2147483648

def W (x d : Int) : Int :=
  if d < 0 ∧ -d > x then x + d + 4294967296
  else if d = -2147483648 ∧ x + 2147483648 < 18446744073709551616 then x + 2147483648
  else if d > 0 ∧ x + d ≥ 18446744073709551616 then x + d - 4294967296
  else x + d

theorem diff_is (a b : Int) : serial_Diff.f a b = some (((a - b) % 4294967296 + 2147483648) % 4294967296 - 2147483648) := by
  unfold serial_Diff.f wrap64 wrap32
  congr 1
  omega

theorem dd_bounds (x low : Int) : -2147483648 ≤ dd x low ∧ dd x low < 2147483648 := by unfold dd; omega

theorem j1_is (k : Nat) (x d : Int) (b : Bool) (h0 : 0 ≤ x) (h1 : x < 18446744073709551616) (b1 : -2147483648 ≤ d) (b2 : d < 2147483648) (hb : b = true ↔ (d = -2147483648 ∧ x + 2147483648 < 18446744073709551616)) (hn : ¬ (d < 0 ∧ -d > x)) :
    serial_Wide.j1 (k + 1) x d b = some (W x d) := by
  simp only [serial_Wide.j1, IntKind.wrap_u64, W, if_neg hn]
  by_cases hc : b = true
  · have hq := hb.1 hc
    rw [if_pos hc, if_pos hq]
    congr 1; omega
  · have hd : ¬ (d = -2147483648 ∧ x + 2147483648 < 18446744073709551616) := fun h => hc (hb.2 h)
    rw [if_neg hc, if_neg hd]
    split
    · split
      · rw [if_pos (by omega)]; congr 1; omega
      · rw [if_neg (by omega)]; congr 1; omega
    · rw [if_neg (by omega)]; congr 1; omega

theorem j0_is (k : Nat) (x d : Int) (b : Bool) (h0 : 0 ≤ x) (h1 : x < 18446744073709551616) (b1 : -2147483648 ≤ d) (b2 : d < 2147483648) (hb : b = true ↔ (d < 0 ∧ -d > x)) :
    serial_Wide.j0 (k + 2) x d b = some (W x d) := by
  simp only [serial_Wide.j0, IntKind.wrap_u64]
  by_cases hc : b = true
  · rw [if_pos hc]; simp only [W, if_pos (hb.1 hc)]
    congr 1; unfold wrap64; have := hb.1 hc; omega
  · have hd := fun h => hc (hb.2 h)
    rw [if_neg hc]
    split
    · rename_i he
      refine j1_is k x d _ h0 h1 b1 b2 ?_ hd
      rw [decide_eq_true_iff]; omega
    · rename_i he
      refine j1_is k x d _ h0 h1 b1 b2 ?_ hd
      simp [he]

theorem wide_is (k : Nat) (x low : Int) (h0 : 0 ≤ x) (h1 : x < 18446744073709551616) : serial_Wide.f (k + 2) x low = some (W x (dd x low)) := by
  obtain ⟨b1, b2⟩ := dd_bounds x low
  have hd : dd x low = ((low - x % 4294967296) % 4294967296 + 2147483648) % 4294967296 - 2147483648 := rfl
  unfold serial_Wide.f
  rw [diff_is, ← hd, Option.bind_some]
  generalize dd x low = d at *
  split
  · refine j0_is k x d _ h0 h1 b1 b2 ?_
    rw [decide_eq_true_iff, IntKind.wrap_u64]; unfold wrap64; omega
  · refine j0_is k x d _ h0 h1 b1 b2 ?_
    simp; omega

theorem alive_is (k : Nat) : broughamlaw04_alive.f (k + 2) = some true := by
  unfold broughamlaw04_alive.f
  rw [wide_is k 4294967296 4294967295 (by decide) (by decide)]
  unfold serial_Max.f serial_Between.f serial_Less.f wrap32
  decide


end SerialHome

theorem SerialHome : broughamlaw04_SerialHome.Pure := by
  intro x off wx wo
  obtain ⟨hx0, hx1⟩ := SerialHome.bd_u64 wx
  obtain ⟨ho0, ho1⟩ := SerialHome.bd_i64 wo
  refine ⟨4, ?_⟩
  have tr : ∀ m, broughamlaw04_SerialHome.j0 (m + 1) x off true = some true := by
    intro m; simp only [broughamlaw04_SerialHome.j0]; rw [if_pos trivial]
  have main : -2147483648 < off → off < 2147483648 → 0 ≤ x + off → x + off < 18446744073709551616 → broughamlaw04_SerialHome.j0 4 x off false = some true := by
    intro a b c d
    have e : IntKind.u64.wrap (x + IntKind.u64.wrap off) = x + off := by simp only [IntKind.wrap_u64]; omega
    simp only [broughamlaw04_SerialHome.j0]
    rw [if_neg (by decide), e, SerialHome.wide_is 1 _ _ c d, SerialHome.alive_is 1]
    simp only [Option.bind_some]
    rw [if_pos]
    unfold SerialHome.W SerialHome.dd
    repeat' split
    all_goals omega
  unfold broughamlaw04_SerialHome.f
  by_cases c1 : off ≥ 2147483648
  · rw [if_pos c1]; exact tr _
  rw [if_neg c1]
  by_cases c2 : off ≤ -2147483648
  · rw [if_pos c2]; exact tr _
  rw [if_neg c2]
  have pos : off > 0 → broughamlaw04_SerialHome.j0 4 x off (decide (IntKind.u64.wrap (x + IntKind.u64.wrap off) < x)) = some true := by
    intro c
    by_cases h : x + off < 18446744073709551616
    · rw [decide_eq_false (by simp only [IntKind.wrap_u64]; omega)]
      exact main (by omega) (by omega) (by omega) h
    · rw [decide_eq_true (by simp only [IntKind.wrap_u64]; omega)]
      exact tr _
  by_cases c3 : off < 0
  · rw [if_pos c3]
    have e : IntKind.u64.wrap (wrap64 (-off)) = -off := by simp only [IntKind.wrap_u64]; unfold wrap64; omega
    rw [e]
    by_cases c4 : -off > x
    · rw [if_pos c4]; exact tr _
    · rw [if_neg c4, if_neg (by omega)]
      exact main (by omega) (by omega) (by omega) (by omega)
  · rw [if_neg c3]
    by_cases c5 : off > 0
    · rw [if_pos c5]; exact pos c5
    · rw [if_neg c5]
      exact main (by omega) (by omega) (by omega) (by omega)

end Go.Proofs.Ytjmebloeodcoaaa.Pure
