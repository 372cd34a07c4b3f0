/- SerialMoves: numbers of 32 bits that are moved by the same way round lie as they did: of the functions that text F04 prints. Conditions: none. -/
import Derived.Test.YtjmebloeodcoaaaF04
import Derived.Test.YtjmebloeodcoaaaZedPa
namespace Go.Proofs.YtjmebloeodcoaaaF04
open Go Zed
set_option linter.unusedVariables false

theorem alive_is : f31_broughamlaw04_alive = some true := by decide +kernel
theorem diff_is (a b : Int) : f35_serial_Diff a b = some (((a - b) % 4294967296 + 2147483648) % 4294967296 - 2147483648) := by
  unfold f35_serial_Diff
  simp only [w_i64, w_i32, w_u32]
  congr 1; omega
theorem less_is (a b : Int) : f32_serial_Less a b = some (decide (((a - b) % 4294967296 + 2147483648) % 4294967296 - 2147483648 < 0)) := by
  unfold f32_serial_Less
  simp only [w_i32, w_u32]
theorem shift (a b by_ : Int) : ((a + by_) % 4294967296 - (b + by_) % 4294967296) % 4294967296 = (a - b) % 4294967296 := by omega

theorem SerialMoves (a : Int) (h0 : K.ok (.int .u32) a) (b : Int) (h1 : K.ok (.int .u32) b) (by_ : Int) (h2 : K.ok (.int .u32) by_) : f9_broughamlaw04_SerialMoves a b by_ = some true := by
  obtain ⟨ha0, ha1⟩ := ok_u32 h0
  obtain ⟨hb0, hb1⟩ := ok_u32 h1
  obtain ⟨hc0, hc1⟩ := ok_u32 h2
  unfold f9_broughamlaw04_SerialMoves f34_serial_Max f36_serial_Within
  simp only [diff_is, less_is, w_u32, shift, alive_is, Option.bind_some, if_true, beq_self_eq_true]
  by_cases h : ((a - b) % 4294967296 + 2147483648) % 4294967296 - 2147483648 < 0
  · simp only [h, decide_true, if_true, Option.bind_some, beq_self_eq_true]
    by_cases h2 : (a - b) % 4294967296 = 2147483648
    · simp [h2]
    · rw [if_pos]
      simp only [w_i64, beq_iff_eq]; omega
  · simp only [h, decide_false, Bool.false_eq_true, if_false, Option.bind_some, if_true, beq_self_eq_true]
    by_cases h2 : (a - b) % 4294967296 = 2147483648
    · omega
    · rw [if_pos]
      simp only [w_i64, beq_iff_eq]; omega
end Go.Proofs.YtjmebloeodcoaaaF04
