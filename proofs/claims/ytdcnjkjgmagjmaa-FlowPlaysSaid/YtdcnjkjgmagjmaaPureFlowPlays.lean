/- FlowPlays: a path's numbers and times are the document's: of the functions that text F21b prints. Printed by flowplays.py. Conditions: none. -/
import Derived.Test.YtdcnjkjgmagjmaaF21b
import Derived.Test.YtdcnjkjgmagjmaaZedPb
namespace Go.Proofs.YtdcnjkjgmagjmaaF21b
open Go Zed
set_option linter.unusedVariables false
set_option linter.unusedSimpArgs false
set_option maxRecDepth 10000

theorem alive_is : f22_broughamlaw21_alive = some true := by kernel_rfl
abbrev U32 (x : Int) : Prop := 0 ≤ x ∧ x < 4294967296
/-- What a flow and the document's have alike. -/
structure C where
  (st first acked next wait : Int) (known : Bool) (mean var back w0 w1 w2 w3 w4 lim pts pause burst rate left idle age tries quiet : Int) (heard : Bool)
structure Q where
  (id path lo re : Int)
theorem zi (m : Int) (h : 0 ≤ m) : (0 : Int) ≤ 0 ∧ (0 : Int) ≤ m := ⟨Int.le_refl _, h⟩
structure I (c : C) : Prop where
  first : U32 c.first
  acked : U32 c.acked
  next : U32 c.next
  wait : U32 c.wait
  mean : 0 ≤ c.mean ∧ c.mean ≤ 32768
  var : 0 ≤ c.var ∧ c.var ≤ 20000
  back : 0 ≤ c.back ∧ c.back ≤ 8
  w1 : 0 ≤ c.w1 ∧ c.w1 ≤ 4096
  w4 : c.w4 = 0
  pts : 0 ≤ c.pts ∧ c.pts ≤ 4096
  pause : 0 ≤ c.pause ∧ c.pause ≤ 7
  burst : 0 ≤ c.burst ∧ c.burst ≤ 4096
  rate : 0 ≤ c.rate ∧ c.rate ≤ 4096
  left : 0 ≤ c.left ∧ c.left ≤ c.burst
  idle : 0 ≤ c.idle ∧ c.idle ≤ 4096
  age : 0 ≤ c.age ∧ c.age ≤ 4096
  quiet : 0 ≤ c.quiet ∧ c.quiet ≤ 16384

/-! Serial numbers. -/
def df (a b : Int) : Int := (a - b + 2147483648) % 4294967296 - 2147483648
theorem refdiff_is {a b : Int} (ha : U32 a) (hb : U32 b) : f137_broughamref04_Diff a b = some (df a b) := by
  have e1 : IntKind.wrap .i64 a = a := i64_id (by omega) (by omega)
  have e2 : IntKind.wrap .i64 b = b := i64_id (by omega) (by omega)
  have e3 : IntKind.wrap .i64 (a - b) = a - b := i64_id (by omega) (by omega)
  have e4 : IntKind.wrap .i64 (a - b + 4294967296) = a - b + 4294967296 := i64_id (by omega) (by omega)
  have e5 : IntKind.wrap .i64 (a - b - 4294967296) = a - b - 4294967296 := i64_id (by omega) (by omega)
  unfold f137_broughamref04_Diff df
  simp only [e1, e2, e3, e4, e5, decide_eq_true_eq]
  by_cases h : a - b < -2147483648
  · rw [if_pos h, if_neg (by omega)]; congr 1; omega
  · rw [if_neg h]
    by_cases h2 : a - b ≥ 2147483648
    · rw [if_pos h2]; congr 1; omega
    · rw [if_neg h2]; congr 1; omega
theorem less_is (a b : Int) : f115_serial_Less a b = some (decide (df a b < 0)) := by
  unfold f115_serial_Less df
  rw [w_u32, w_i32]
  have e : ((a - b) % 4294967296 + 2147483648) % 4294967296 - 2147483648 = (a - b + 2147483648) % 4294967296 - 2147483648 := by omega
  rw [e]
def mx (a b : Int) : Int := if df a b < 0 then b else a
theorem mx_in {a b : Int} (ha : U32 a) (hb : U32 b) : U32 (mx a b) := by unfold mx; split <;> assumption
theorem max_is (a b : Int) : f73_serial_Max a b = some (mx a b) := by
  unfold f73_serial_Max mx
  rw [less_is]
  show (if decide (df a b < 0) = true then _ else _) = _
  by_cases c : df a b < 0
  · rw [if_pos (by simpa using c), if_pos c]
  · rw [if_neg (by simpa using c), if_neg c]
theorem ahead_is {a b : Int} (ha : U32 a) (hb : U32 b) : f123_broughamref21_ahead a b = some (mx a b) := by
  unfold f123_broughamref21_ahead mx
  rw [refdiff_is ha hb]
  show (if decide (df a b < 0) = true then _ else _) = _
  by_cases c : df a b < 0
  · rw [if_pos (by simpa using c), if_pos c]
  · rw [if_neg (by simpa using c), if_neg c]
def bt (x a b : Int) : Bool := if df b a < 0 then false else if x = a then false else decide ((x - a) % 4294967296 ≤ (b - a) % 4294967296)
theorem between_is (x a b : Int) : f75_serial_Between x a b = some (bt x a b) := by
  unfold f75_serial_Between bt
  rw [w_u32, w_u32, less_is]
  by_cases h1 : x = a
  · rw [if_neg (by simpa using h1), if_pos h1]; split <;> rfl
  · rw [if_pos (by simpa using h1), if_neg h1]
    by_cases h2 : (x - a) % 4294967296 ≤ (b - a) % 4294967296
    · rw [if_pos (by simpa using h2), decide_eq_true h2]
      show some (!decide (df b a < 0)) = _
      by_cases h3 : df b a < 0
      · rw [if_pos h3, decide_eq_true h3]; rfl
      · rw [if_neg h3, decide_eq_false h3]; rfl
    · rw [if_neg (by simpa using h2), decide_eq_false h2]; split <;> rfl
theorem refahead_is {a b : Int} (ha : U32 a) (hb : U32 b) : f113_broughamref04_ahead a b = some ((b - a) % 4294967296) := by
  unfold f113_broughamref04_ahead
  rw [i64_id (e := b) (by omega) (by omega), i64_id (e := a) (by omega) (by omega), i64_id (e := b - a) (by omega) (by omega), i64_id (e := b - a + 4294967296) (by omega) (by omega)]
  by_cases c : b - a < 0
  · rw [if_pos (by simpa using c)]; congr 1; omega
  · rw [if_neg (by simpa using c)]; congr 1; omega
theorem refbetween_is {x a b : Int} (hx : U32 x) (ha : U32 a) (hb : U32 b) : f114_broughamref04_Between x a b = some (bt x a b) := by
  unfold f114_broughamref04_Between bt
  rw [refdiff_is hb ha, refahead_is ha hx, refahead_is ha hb]
  show (if decide (df b a ≥ 0) = true then _ else _) = _
  by_cases h3 : df b a < 0
  · rw [if_neg (by simp only [decide_eq_true_eq]; omega), if_pos h3]
  · rw [if_pos (by simp only [decide_eq_true_eq]; omega), if_neg h3]
    by_cases h1 : x = a
    · rw [if_neg (by simpa using h1), if_pos h1]
    · rw [if_pos (by simpa using h1), if_neg h1]; rfl
theorem take_eq (s0 s1 s2 s3 s4 : Int) (h4 : 0 ≤ s4 ∧ s4 < 256) (l : List (Int × List Int)) (s6 : List Int) : f74_seg_Take s0 s1 s2 s3 s4 l s6 = f124_broughamref07_Take s0 s1 s2 s3 s4 l s6 := by
  unfold f74_seg_Take f124_broughamref07_Take
  have e : bits .and .u8 s4 1 = s4 % 2 := bits_mask .u8 8 (by decide) wraps_u8 1 (by decide) s4 h4.1 (by omega)
  rw [e, tmod_e h4.1]
  have : s4 % 2 = 0 ∨ s4 % 2 = 1 := by omega
  rcases this with h | h
  · rw [h, if_neg (by decide)]
    congr 1
    rw [show IntKind.wrap .u32 0 = 0 from rfl, Int.add_zero, w_u32, w_u32]; omega
  · rw [h, if_pos (by decide)]; rfl
def tk (s4 : Int) (s6 : List Int) : Int := IntKind.wrap .u32 ((IntKind.wrap .u32 ((s6.length : Nat) : Int)) + (IntKind.wrap .u32 (Int.tmod s4 2)))
theorem wrap_u32 (e : Int) : U32 (IntKind.wrap .u32 e) := by rw [w_u32]; constructor <;> omega

/-! The steps. -/
def cT (n : Int) : Int := if 4096 < (if n < 0 then 0 else n) then 4096 else (if n < 0 then 0 else n)
theorem cT_in (n : Int) : 0 ≤ cT n ∧ cT n ≤ 4096 := by unfold cT; split <;> split at * <;> omega
theorem Within_is (n : Int) : f122_broughamref11_Within n = some (cT n) := by
  unfold f122_broughamref11_Within cT
  simp only [decide_eq_true_eq]
  by_cases h : n < 0
  · simp only [if_pos h]; rfl
  · simp only [if_neg h]
    by_cases h2 : n > 4096
    · rw [if_pos h2, if_pos (by omega)]
    · rw [if_neg h2, if_neg (by omega)]
def C.came (c : C) (s2 s3 s4 : Int) (s6 : List Int) : C := { c with wait := mx c.wait (IntKind.wrap .u32 (s2 + tk s4 s6)), acked := if bt s3 c.acked c.next = true then s3 else c.acked }
def C.tick (c : C) : C := { c with idle := if c.idle < 4096 then c.idle + 1 else c.idle, age := if c.age < 4096 then c.age + 1 else c.age, quiet := if c.quiet < 16384 then c.quiet + 1 else c.quiet, pts := if c.pause = 7 then (if c.pts > 0 then c.pts - 1 else c.pts) else c.pts, pause := if c.pause = 7 then 0 else c.pause + 1, left := if c.burst < c.left + c.rate then c.burst else c.left + c.rate }
def base (c : C) : Int := if c.known then (if c.mean / 8 + (if 1 < c.var then c.var else 1) < 2 then 2 else c.mean / 8 + (if 1 < c.var then c.var else 1)) else 8
def pat (c : C) : Int := if 256 < base c * 2 ^ c.back.toNat then 256 else base c * 2 ^ c.back.toNat
def C.bk (c : C) : C := { c with back := if c.back < 8 then c.back + 1 else c.back }
def again (c : C) : Bool := if c.st = 1 then (if c.age < pat c then false else true) else false
def C.retry (c : C) : C := if again c = true then { c.bk with age := 0, tries := IntKind.wrap .i64 (c.tries + 1) } else c
def C.asked (c : C) (n : Int) : C := { c with st := 2, wait := IntKind.wrap .u32 (n + 1) }
def C.answered (c : C) (n : Int) : C := { c with st := 3, acked := c.next, wait := IntKind.wrap .u32 (n + 1), age := 0, tries := 0, quiet := 0, heard := false }
def C.rise (c : C) : C := { c with st := 3, acked := mx c.acked (IntKind.wrap .u32 (c.first + 1)), age := 0, tries := 0, quiet := 0, heard := true }
def ab (d : Int) : Int := if d < 0 then 0 - d else d
def m0 (d : Int) : Int := if d < 0 then 0 else d
def C.sample (c : C) (n : Int) : C := if c.known then { c with mean := m0 (c.mean + (cT n - c.mean / 8)), var := m0 (c.var + ab (cT n - c.mean / 8) - c.var / 4), back := 0 } else { c with known := true, mean := 8 * cT n, var := 2 * cT n, back := 0 }
def C.sent (c : C) (s4 : Int) (s6 : List Int) : C := { c with next := if s4 % 2 = 0 then IntKind.wrap .u32 (c.next + IntKind.wrap .u32 ((s6.length : Nat) : Int)) else c.next, idle := 0 }
section
variable {c : C} (h : I c)
include h
theorem I.came (s2 : Int) {s3 : Int} (h3 : U32 s3) (s4 : Int) (s6 : List Int) : I (c.came s2 s3 s4 s6) := { h with wait := mx_in h.wait (wrap_u32 _), acked := by show U32 (if bt s3 c.acked c.next = true then s3 else c.acked); split; exact h3; exact h.acked }
theorem I.tick : I c.tick := { h with
  idle := by have := h.idle; show 0 ≤ (if c.idle < 4096 then c.idle + 1 else c.idle) ∧ (if c.idle < 4096 then c.idle + 1 else c.idle) ≤ (4096 : Int); split <;> omega
  age := by have := h.age; show 0 ≤ (if c.age < 4096 then c.age + 1 else c.age) ∧ (if c.age < 4096 then c.age + 1 else c.age) ≤ (4096 : Int); split <;> omega
  quiet := by have := h.quiet; show 0 ≤ (if c.quiet < 16384 then c.quiet + 1 else c.quiet) ∧ (if c.quiet < 16384 then c.quiet + 1 else c.quiet) ≤ (16384 : Int); split <;> omega
  pts := by have := h.pts; show 0 ≤ (if c.pause = 7 then (if c.pts > 0 then c.pts - 1 else c.pts) else c.pts) ∧ (if c.pause = 7 then (if c.pts > 0 then c.pts - 1 else c.pts) else c.pts) ≤ (4096 : Int); split; split <;> omega; omega
  pause := by have := h.pause; show 0 ≤ (if c.pause = 7 then 0 else c.pause + 1) ∧ (if c.pause = 7 then 0 else c.pause + 1) ≤ (7 : Int); split <;> omega
  left := by have := h.left; have := h.rate; show 0 ≤ (if c.burst < c.left + c.rate then c.burst else c.left + c.rate) ∧ (if c.burst < c.left + c.rate then c.burst else c.left + c.rate) ≤ c.burst; split <;> omega }
theorem I.bk : I c.bk := { h with back := by have := h.back; show 0 ≤ (if c.back < 8 then c.back + 1 else c.back) ∧ (if c.back < 8 then c.back + 1 else c.back) ≤ (8 : Int); split <;> omega }
theorem I.retry : I c.retry := by
  unfold C.retry
  split
  · exact { h.bk with age := zi 4096 (by decide) }
  · exact h
theorem I.asked (n : Int) : I (c.asked n) := { h with wait := wrap_u32 _ }
theorem I.answered (n : Int) : I (c.answered n) := { h with wait := wrap_u32 _, acked := h.next, age := zi 4096 (by decide), quiet := zi 16384 (by decide) }
theorem I.rise : I c.rise := { h with acked := mx_in h.acked (wrap_u32 _), age := zi 4096 (by decide), quiet := zi 16384 (by decide) }
theorem I.sample (n : Int) : I (c.sample n) := by
  have h1 := h.mean; have h2 := h.var; have h3 := cT_in n
  unfold C.sample
  split
  · refine { h with mean := ?_, var := ?_, back := zi 8 (by decide) }
    · show 0 ≤ m0 (c.mean + (cT n - c.mean / 8)) ∧ m0 (c.mean + (cT n - c.mean / 8)) ≤ 32768
      unfold m0; split <;> omega
    · show 0 ≤ m0 (c.var + ab (cT n - c.mean / 8) - c.var / 4) ∧ m0 (c.var + ab (cT n - c.mean / 8) - c.var / 4) ≤ 20000
      unfold m0 ab; split <;> split at * <;> omega
  · exact { h with mean := ⟨by show 0 ≤ 8 * cT n; omega, by show 8 * cT n ≤ 32768; omega⟩, var := ⟨by show 0 ≤ 2 * cT n; omega, by show 2 * cT n ≤ 20000; omega⟩, back := zi 8 (by decide) }
theorem I.sent (s4 : Int) (s6 : List Int) : I (c.sent s4 s6) := { h with next := by show U32 (if s4 % 2 = 0 then IntKind.wrap .u32 (c.next + IntKind.wrap .u32 ((s6.length : Nat) : Int)) else c.next); split; exact wrap_u32 _; exact h.next, idle := zi 4096 (by decide) }
theorem base_in : 2 ≤ base c ∧ base c ≤ 24100 := by
  have h1 := h.mean; have h2 := h.var
  unfold base; split
  · split <;> split at * <;> omega
  · omega
theorem mean_q : 0 ≤ c.mean / 8 ∧ c.mean / 8 ≤ 4096 := by have := h.mean; omega
end
theorem two_le : ∀ k : Fin 9, 1 ≤ (2 : Int) ^ k.val ∧ (2 : Int) ^ k.val ≤ 256 := by decide
theorem two_in {b : Int} (h : 0 ≤ b ∧ b ≤ 8) : 1 ≤ (2 : Int) ^ b.toNat ∧ (2 : Int) ^ b.toNat ≤ 256 := two_le ⟨b.toNat, by omega⟩

theorem came_fl (q : Q) {c : C} (h : I c) (s0 s1 s2 s3 s4 : Int) (h4 : 0 ≤ s4 ∧ s4 < 256) (s5 : List (Int × List Int)) (s6 : List Int) : f32_flow_Flow_Came s0 s1 s2 s3 s4 s5 s6 c.st c.first c.acked c.next c.wait c.mean c.var c.known c.back q.id q.path q.lo q.re false false 0 0 c.idle c.quiet c.heard c.age c.tries c.w0 c.w1 c.w2 c.w3 c.w4 c.pts c.lim c.pause c.burst c.rate c.left = some (bt s3 c.acked c.next, (c.came s2 s3 s4 s6).st, (c.came s2 s3 s4 s6).first, (c.came s2 s3 s4 s6).acked, (c.came s2 s3 s4 s6).next, (c.came s2 s3 s4 s6).wait, (c.came s2 s3 s4 s6).mean, (c.came s2 s3 s4 s6).var, (c.came s2 s3 s4 s6).known, (c.came s2 s3 s4 s6).back, q.id, q.path, q.lo, q.re, false, false, 0, 0, (c.came s2 s3 s4 s6).idle, (c.came s2 s3 s4 s6).quiet, (c.came s2 s3 s4 s6).heard, (c.came s2 s3 s4 s6).age, (c.came s2 s3 s4 s6).tries, (c.came s2 s3 s4 s6).w0, (c.came s2 s3 s4 s6).w1, (c.came s2 s3 s4 s6).w2, (c.came s2 s3 s4 s6).w3, (c.came s2 s3 s4 s6).w4, (c.came s2 s3 s4 s6).pts, (c.came s2 s3 s4 s6).lim, (c.came s2 s3 s4 s6).pause, (c.came s2 s3 s4 s6).burst, (c.came s2 s3 s4 s6).rate, (c.came s2 s3 s4 s6).left) := by
  unfold f32_flow_Flow_Came
  rw [take_eq s0 s1 s2 s3 s4 h4, show f124_broughamref07_Take s0 s1 s2 s3 s4 s5 s6 = some (tk s4 s6) from rfl, Option.bind_some, max_is, Option.bind_some, between_is, Option.bind_some]
  unfold C.came
  dsimp only
  cases hb : bt s3 c.acked c.next with
  | true => rfl
  | false => rfl
theorem came_rf {c : C} (h : I c) (s0 s1 s2 s3 s4 : Int) (h3 : U32 s3) (s5 : List (Int × List Int)) (s6 : List Int) : f91_broughamref21_Came c.st c.first c.acked c.next c.wait c.known c.mean c.var c.back c.w0 c.w1 c.w2 c.w3 c.w4 c.lim c.pts c.pause c.burst c.rate c.left c.idle c.age c.tries c.quiet c.heard s0 s1 s2 s3 s4 s5 s6 = some (bt s3 c.acked c.next, (c.came s2 s3 s4 s6).st, (c.came s2 s3 s4 s6).first, (c.came s2 s3 s4 s6).acked, (c.came s2 s3 s4 s6).next, (c.came s2 s3 s4 s6).wait, (c.came s2 s3 s4 s6).known, (c.came s2 s3 s4 s6).mean, (c.came s2 s3 s4 s6).var, (c.came s2 s3 s4 s6).back, (c.came s2 s3 s4 s6).w0, (c.came s2 s3 s4 s6).w1, (c.came s2 s3 s4 s6).w2, (c.came s2 s3 s4 s6).w3, (c.came s2 s3 s4 s6).w4, (c.came s2 s3 s4 s6).lim, (c.came s2 s3 s4 s6).pts, (c.came s2 s3 s4 s6).pause, (c.came s2 s3 s4 s6).burst, (c.came s2 s3 s4 s6).rate, (c.came s2 s3 s4 s6).left, (c.came s2 s3 s4 s6).idle, (c.came s2 s3 s4 s6).age, (c.came s2 s3 s4 s6).tries, (c.came s2 s3 s4 s6).quiet, (c.came s2 s3 s4 s6).heard) := by
  unfold f91_broughamref21_Came
  rw [show f124_broughamref07_Take s0 s1 s2 s3 s4 s5 s6 = some (tk s4 s6) from rfl, Option.bind_some, ahead_is h.wait (wrap_u32 _), Option.bind_some, refbetween_is h3 h.acked h.next, Option.bind_some]
  unfold C.came
  dsimp only
  cases hb : bt s3 c.acked c.next with
  | true => rfl
  | false => rfl
theorem qt (n a b d : Int) : f125_quar_Score_Tick n a b d = some ((if IntKind.wrap .i64 (a - IntKind.wrap .i64 (Int.tdiv (IntKind.wrap .i64 (d + cT n)) 8)) < 0 then 0 else IntKind.wrap .i64 (a - IntKind.wrap .i64 (Int.tdiv (IntKind.wrap .i64 (d + cT n)) 8))), b, Int.tmod (IntKind.wrap .i64 (d + cT n)) 8) := rfl
theorem bkt (n a b d : Int) : f126_bucket_Bucket_Tick n a b d = some (a, b, (if a < IntKind.wrap .i64 (d + IntKind.wrap .i64 (cT n * b)) then a else IntKind.wrap .i64 (d + IntKind.wrap .i64 (cT n * b)))) := rfl
theorem cT1 : cT 1 = 1 := by decide
theorem qtick_is {c : C} (h : I c) : f125_quar_Score_Tick 1 c.pts c.lim c.pause = some (c.tick.pts, c.lim, c.tick.pause) := by
  have h1 := h.pts; have h2 := h.pause
  rw [qt, cT1, i64_id (e := c.pause + 1) (by omega) (by omega), tdiv_e (by omega), tmod_e (by omega), i64_id (e := (c.pause + 1) / 8) (by omega) (by omega), i64_id (e := c.pts - (c.pause + 1) / 8) (by omega) (by omega)]
  show some (_, _, _) = some (if c.pause = 7 then (if c.pts > 0 then c.pts - 1 else c.pts) else c.pts, c.lim, if c.pause = 7 then 0 else c.pause + 1)
  by_cases z : c.pause = 7
  · rw [if_pos z, if_pos z, z]
    show some ((if c.pts - 1 < 0 then (0 : Int) else c.pts - 1), c.lim, (0 : Int)) = _
    by_cases y : c.pts > 0
    · rw [if_pos y, if_neg (by omega)]
    · rw [if_neg y, if_pos (by omega), show c.pts = 0 by omega]
  · rw [if_neg z, if_neg z, show (c.pause + 1) / 8 = 0 by omega, show (c.pause + 1) % 8 = c.pause + 1 by omega, Int.sub_zero, if_neg (by omega)]
theorem qtick_rf {c : C} (h : I c) : Ev (fun n => f128_broughamref14_Tick n c.lim c.pts c.pause 1) (fun r => r = (c.lim, c.tick.pts, c.tick.pause)) := by
  have h1 := h.pts; have h2 := h.pause
  unfold f128_broughamref14_Tick
  refine Ev.bind (Ev.of (Within_is 1) rfl) ?_
  rintro _ rfl
  rw [show cT 1 = 1 from by decide, i64_id (e := c.pause + 1) (by omega) (by omega)]
  have stop : ∀ (p k : Int), k < 8 → Ev (fun n => f128_broughamref14_Tick_L2 n c.lim p k 0 0 0) (fun w => w = (c.lim, p, k, 0, 0, 0)) := by
    intro p k hk
    apply Ev.succ
    unfold f128_broughamref14_Tick_L2
    exact Ev.neg (by simp only [decide_eq_true_eq]; omega) (Ev.some rfl)
  have loop : Ev (fun n => f128_broughamref14_Tick_L2 n c.lim c.pts (c.pause + 1) 0 0 0) (fun w => w = (c.lim, c.tick.pts, c.tick.pause, 0, 0, 0)) := by
    show Ev _ (fun w => w = (c.lim, (if c.pause = 7 then (if c.pts > 0 then c.pts - 1 else c.pts) else c.pts), (if c.pause = 7 then 0 else c.pause + 1), 0, 0, 0))
    by_cases z : c.pause = 7
    · rw [if_pos z, if_pos z, z]
      apply Ev.succ
      unfold f128_broughamref14_Tick_L2
      refine Ev.pos (by decide) ?_
      by_cases y : c.pts > 0
      · rw [if_pos y]
        refine Ev.pos (by simpa using y) ?_
        rw [i64_id (by omega) (by omega)]
        exact stop _ _ (by decide)
      · rw [if_neg y]
        refine Ev.neg (by simpa using y) ?_
        exact stop _ _ (by decide)
    · rw [if_neg z, if_neg z]
      exact stop _ _ (by omega)
  refine Ev.bind loop ?_
  rintro _ rfl
  exact Ev.some rfl
theorem btick_is {c : C} (h : I c) : f126_bucket_Bucket_Tick 1 c.burst c.rate c.left = some (c.burst, c.rate, c.tick.left) := by
  have h1 := h.burst; have h2 := h.rate; have h3 := h.left
  rw [bkt, cT1, Int.one_mul, i64_id (e := c.rate) (by omega) (by omega), i64_id (by omega) (by omega)]
  rfl
theorem btick_rf {c : C} (h : I c) : f129_broughamref11_Tick c.burst c.rate c.left 1 = some (c.burst, c.rate, c.tick.left) := by
  have h1 := h.burst; have h2 := h.rate; have h3 := h.left
  unfold f129_broughamref11_Tick
  rw [Within_is, Option.bind_some, show cT 1 = 1 from by decide, Int.one_mul, i64_id (e := c.rate) (by omega) (by omega), i64_id (by omega) (by omega)]
  show _ = some (c.burst, c.rate, if c.burst < c.left + c.rate then c.burst else c.left + c.rate)
  by_cases z : c.burst < c.left + c.rate
  · rw [if_pos (by simpa using z), if_pos z]
  · rw [if_neg (by simpa using z), if_neg z]
theorem min1 {x m : Int} (h : 0 ≤ x ∧ x ≤ m) (hm : m ≤ 100000) : (if m < IntKind.wrap .i64 (x + 1) then m else IntKind.wrap .i64 (x + 1)) = (if x < m then x + 1 else x) := by
  rw [i64_id (by omega) (by omega)]
  split <;> split <;> omega
theorem one_is {x : Int} (h : 0 ≤ x ∧ x ≤ 4096) : f127_broughamref21_one x = some (if x < 4096 then x + 1 else x) := by
  unfold f127_broughamref21_one
  rw [i64_id (by omega) (by omega)]
  by_cases z : x < 4096
  · rw [if_pos (by simpa using z), if_pos z]
  · rw [if_neg (by simpa using z), if_neg z]
theorem tick_fl (q : Q) {c : C} (h : I c) : f92_flow_Flow_Tick c.st c.first c.acked c.next c.wait c.mean c.var c.known c.back q.id q.path q.lo q.re false false 0 0 c.idle c.quiet c.heard c.age c.tries c.w0 c.w1 c.w2 c.w3 c.w4 c.pts c.lim c.pause c.burst c.rate c.left = some ((c.tick).st, (c.tick).first, (c.tick).acked, (c.tick).next, (c.tick).wait, (c.tick).mean, (c.tick).var, (c.tick).known, (c.tick).back, q.id, q.path, q.lo, q.re, false, false, 0, 0, (c.tick).idle, (c.tick).quiet, (c.tick).heard, (c.tick).age, (c.tick).tries, (c.tick).w0, (c.tick).w1, (c.tick).w2, (c.tick).w3, (c.tick).w4, (c.tick).pts, (c.tick).lim, (c.tick).pause, (c.tick).burst, (c.tick).rate, (c.tick).left) := by
  unfold f92_flow_Flow_Tick
  rw [qtick_is h, Option.bind_some, btick_is h, Option.bind_some, min1 h.idle (by decide), min1 h.quiet (by decide), min1 h.age (by decide)]
  rfl
theorem tick_rf {c : C} (h : I c) : Ev (fun n => f93_broughamref21_Tick n c.st c.first c.acked c.next c.wait c.known c.mean c.var c.back c.w0 c.w1 c.w2 c.w3 c.w4 c.lim c.pts c.pause c.burst c.rate c.left c.idle c.age c.tries c.quiet c.heard) (fun r => r = ((c.tick).st, (c.tick).first, (c.tick).acked, (c.tick).next, (c.tick).wait, (c.tick).known, (c.tick).mean, (c.tick).var, (c.tick).back, (c.tick).w0, (c.tick).w1, (c.tick).w2, (c.tick).w3, (c.tick).w4, (c.tick).lim, (c.tick).pts, (c.tick).pause, (c.tick).burst, (c.tick).rate, (c.tick).left, (c.tick).idle, (c.tick).age, (c.tick).tries, (c.tick).quiet, (c.tick).heard)) := by
  have hq := h.quiet
  unfold f93_broughamref21_Tick
  refine Ev.bind (Ev.of (one_is h.idle) rfl) ?_
  rintro _ rfl
  refine Ev.bind (Ev.of (one_is h.age) rfl) ?_
  rintro _ rfl
  have eq : c.tick.quiet = if c.quiet < 16384 then c.quiet + 1 else c.quiet := rfl
  refine Ev.ite (fun z => ?_) (fun z => ?_)
  · simp only [decide_eq_true_eq] at z
    refine Ev.bind (qtick_rf h) ?_
    rintro _ rfl
    refine Ev.bind (Ev.of (btick_rf h) rfl) ?_
    rintro _ rfl
    rw [eq, if_pos z, i64_id (by omega) (by omega)]
    exact Ev.some rfl
  · simp only [decide_eq_true_eq] at z
    refine Ev.bind (qtick_rf h) ?_
    rintro _ rfl
    refine Ev.bind (Ev.of (btick_rf h) rfl) ?_
    rintro _ rfl
    rw [eq, if_neg z]
    exact Ev.some rfl
theorem pat_fl (q : Q) {c : C} (h : I c) : f107_rto_Est_Patience c.st c.first c.acked c.next c.wait c.mean c.var c.known c.back q.id q.path q.lo q.re false false 0 0 c.idle c.quiet c.heard c.age c.tries c.w0 c.w1 c.w2 c.w3 c.w4 c.pts c.lim c.pause c.burst c.rate c.left = some (pat c) := by
  have h1 := h.mean; have h2 := h.var; have h3 := h.back; have h4 := base_in h; have h5 := two_in h3
  have hk : (2 : Int) ^ (min c.back.toNat (IntKind.bits .i64)) = 2 ^ c.back.toNat := by rw [show min c.back.toNat (IntKind.bits .i64) = c.back.toNat from Nat.min_eq_left (by show _ ≤ 64; omega)]
  have hm : 0 ≤ base c * 2 ^ c.back.toNat ∧ base c * 2 ^ c.back.toNat ≤ 24100 * 256 := ⟨Int.mul_nonneg (by omega) (by omega), Int.mul_le_mul h4.2 h5.2 (by omega) (by omega)⟩
  unfold f107_rto_Est_Patience
  rw [tdiv_e h1.1, i64_id (e := c.mean / 8) (by omega) (by omega), i64_id (e := c.mean / 8 + _) (by split <;> omega) (by split <;> omega), hk]
  cases hkn : c.known with
  | true =>
    rw [if_pos rfl, if_pos h3.1]
    have eb : base c = (if c.mean / 8 + (if 1 < c.var then c.var else 1) < 2 then 2 else c.mean / 8 + (if 1 < c.var then c.var else 1)) := by unfold base; rw [if_pos hkn]
    rw [← eb, i64_id (by omega) (by omega)]; rfl
  | false =>
    rw [if_neg (by decide), if_pos h3.1]
    have eb : base c = (if 8 < 2 then 2 else 8) := by unfold base; rw [if_neg (by rw [hkn]; decide)]; rfl
    have eb2 : (if (8 : Nat) < 2 then (2 : Int) else 8) = base c := by rw [eb]
    show some (if 256 < IntKind.i64.wrap ((if (8 : Nat) < 2 then (2 : Int) else 8) * 2 ^ c.back.toNat) then 256 else IntKind.i64.wrap ((if (8 : Nat) < 2 then (2 : Int) else 8) * 2 ^ c.back.toNat)) = _
    rw [eb2, i64_id (by omega) (by omega)]; rfl
theorem dbl_loop (e0 : Bool) (e1 e2 e3 : Int) (he : e3 ≤ 8) : ∀ (d : Nat) (i x : Int) (hi : 0 ≤ i ∧ i + d = e3) (hx : 0 ≤ x) (hb : x * 2 ^ d ≤ 1099511627776),
    Ev (fun n => f108_broughamref12_Patience_L9 n x i e0 e1 e2 e3) (fun r => r = x * 2 ^ d)
  | 0, i, x, hi, hx, hb => by
    apply Ev.succ
    unfold f108_broughamref12_Patience_L9
    exact Ev.neg (by simp only [decide_eq_true_eq]; omega) (Ev.some (by simp))
  | d + 1, i, x, hi, hx, hb => by
    have hp : 1 ≤ (2 : Int) ^ d := Int.pow_pos (by decide)
    have e : x * 2 * 2 ^ d = x * 2 ^ (d + 1) := by rw [Int.pow_succ, Int.mul_assoc, Int.mul_comm 2 ((2 : Int) ^ d)]
    have hle : x * 2 ≤ x * 2 * 2 ^ d := by
      have := Int.mul_le_mul_of_nonneg_left hp (show 0 ≤ x * 2 by omega); omega
    apply Ev.succ
    unfold f108_broughamref12_Patience_L9
    refine Ev.pos (by simp only [decide_eq_true_eq]; omega) ?_
    rw [i64_id (e := x * 2) (by omega) (by omega), i64_id (e := i + 1) (by omega) (by omega)]
    refine (dbl_loop e0 e1 e2 e3 he d (i + 1) (x * 2) (by omega) (by omega) (by omega)).mono ?_
    rintro _ rfl
    exact e
theorem pat_rf {c : C} (h : I c) : Ev (fun n => f108_broughamref12_Patience n c.known c.mean c.var c.back) (fun r => r = pat c) := by
  have h1 := h.mean; have h2 := h.var; have h3 := h.back; have h4 := base_in h; have h5 := two_in h3
  have hm : 0 ≤ base c * 2 ^ c.back.toNat ∧ base c * 2 ^ c.back.toNat ≤ 24100 * 256 := ⟨Int.mul_nonneg (by omega) (by omega), Int.mul_le_mul h4.2 h5.2 (by omega) (by omega)⟩
  have fin : ∀ x, x = base c → Ev (fun n => (f108_broughamref12_Patience_L9 n x 0 c.known c.mean c.var c.back).bind fun w => if (decide ((w : Int) > 256)) = true then some 256 else some w) (fun r => r = pat c) := by
    rintro _ rfl
    refine Ev.bind (dbl_loop c.known c.mean c.var c.back h3.2 c.back.toNat 0 (base c) (by omega) (by omega) (by omega)) ?_
    rintro _ rfl
    unfold pat
    refine Ev.ite (fun z => Ev.some ?_) (fun z => Ev.some ?_)
    · simp only [decide_eq_true_eq] at z; rw [if_pos z]
    · simp only [decide_eq_true_eq] at z; rw [if_neg z]
  unfold f108_broughamref12_Patience
  rw [tdiv_e h1.1, i64_id (e := c.mean / 8) (by omega) (by omega), i64_id (e := c.mean / 8 + c.var) (by omega) (by omega), i64_id (e := c.mean / 8 + c.var + 1) (by omega) (by omega)]
  refine Ev.ite (fun hkn => ?_) (fun hkn => ?_)
  · have eb : base c = (if c.mean / 8 + (if 1 < c.var then c.var else 1) < 2 then 2 else c.mean / 8 + (if 1 < c.var then c.var else 1)) := by unfold base; rw [if_pos hkn]
    refine Ev.ite (fun z => ?_) (fun z => ?_)
    · simp only [beq_iff_eq] at z
      rw [if_neg (show ¬ 1 < c.var by omega)] at eb
      refine Ev.ite (fun y => fin 2 ?_) (fun y => fin _ ?_)
      · simp only [decide_eq_true_eq] at y; rw [eb, if_pos (by omega)]
      · simp only [decide_eq_true_eq] at y; rw [eb, if_neg (by omega)]; omega
    · simp only [beq_iff_eq] at z
      have ev : (if 1 < c.var then c.var else 1) = c.var := by split <;> omega
      rw [ev] at eb
      refine Ev.ite (fun y => fin 2 ?_) (fun y => fin _ ?_)
      · simp only [decide_eq_true_eq] at y; rw [eb, if_pos (by omega)]
      · simp only [decide_eq_true_eq] at y; rw [eb, if_neg (by omega)]
  · refine Ev.neg (by decide) (fin 8 ?_)
    unfold base; rw [if_neg hkn]
theorem bk_rf {c : C} (h : I c) : f102_broughamref12_Back c.known c.mean c.var c.back = some (c.known, c.mean, c.var, c.bk.back) := by
  have h3 := h.back
  unfold f102_broughamref12_Back
  rw [i64_id (by omega) (by omega)]
  show _ = some (_, _, _, if c.back < 8 then c.back + 1 else c.back)
  by_cases z : c.back < 8
  · rw [if_pos (by simpa using z), if_pos z]
  · rw [if_neg (by simpa using z), if_neg z]
theorem bk_fl (q : Q) {c : C} (h : I c) : f101_rto_Est_Back c.st c.first c.acked c.next c.wait c.mean c.var c.known c.back q.id q.path q.lo q.re false false 0 0 c.idle c.quiet c.heard c.age c.tries c.w0 c.w1 c.w2 c.w3 c.w4 c.pts c.lim c.pause c.burst c.rate c.left = some ((c.bk).st, (c.bk).first, (c.bk).acked, (c.bk).next, (c.bk).wait, (c.bk).mean, (c.bk).var, (c.bk).known, (c.bk).back, q.id, q.path, q.lo, q.re, false, false, 0, 0, (c.bk).idle, (c.bk).quiet, (c.bk).heard, (c.bk).age, (c.bk).tries, (c.bk).w0, (c.bk).w1, (c.bk).w2, (c.bk).w3, (c.bk).w4, (c.bk).pts, (c.bk).lim, (c.bk).pause, (c.bk).burst, (c.bk).rate, (c.bk).left) := by
  unfold f101_rto_Est_Back
  rw [min1 h.back (by decide)]
  rfl
theorem retry_fl (q : Q) {c : C} (h : I c) : f95_flow_Flow_Retry c.st c.first c.acked c.next c.wait c.mean c.var c.known c.back q.id q.path q.lo q.re false false 0 0 c.idle c.quiet c.heard c.age c.tries c.w0 c.w1 c.w2 c.w3 c.w4 c.pts c.lim c.pause c.burst c.rate c.left = some (again c, (c.retry).st, (c.retry).first, (c.retry).acked, (c.retry).next, (c.retry).wait, (c.retry).mean, (c.retry).var, (c.retry).known, (c.retry).back, q.id, q.path, q.lo, q.re, false, false, 0, 0, (c.retry).idle, (c.retry).quiet, (c.retry).heard, (c.retry).age, (c.retry).tries, (c.retry).w0, (c.retry).w1, (c.retry).w2, (c.retry).w3, (c.retry).w4, (c.retry).pts, (c.retry).lim, (c.retry).pause, (c.retry).burst, (c.retry).rate, (c.retry).left) := by
  unfold f95_flow_Flow_Retry
  by_cases z : c.st = 1
  · rw [if_neg (by simpa using z), pat_fl q h, Option.bind_some]
    by_cases y : c.age < pat c
    · have ea : again c = false := by unfold again; rw [if_pos z, if_pos y]
      have er : c.retry = c := by unfold C.retry; rw [if_neg (by rw [ea]; decide)]
      rw [if_pos (by simpa using y), er, ea]
    · have ea : again c = true := by unfold again; rw [if_pos z, if_neg y]
      have er : c.retry = { c.bk with age := 0, tries := IntKind.wrap .i64 (c.tries + 1) } := by unfold C.retry; rw [if_pos ea]
      rw [if_neg (by simpa using y), bk_fl q h, Option.bind_some, er, ea]
      rfl
  · have ea : again c = false := by unfold again; rw [if_neg z]
    have er : c.retry = c := by unfold C.retry; rw [if_neg (by rw [ea]; decide)]
    rw [if_pos (by simpa using z), er, ea]
theorem retry_rf {c : C} (h : I c) : Ev (fun n => f94_broughamref21_Retry n c.st c.first c.acked c.next c.wait c.known c.mean c.var c.back c.w0 c.w1 c.w2 c.w3 c.w4 c.lim c.pts c.pause c.burst c.rate c.left c.idle c.age c.tries c.quiet c.heard) (fun r => r = (again c, (c.retry).st, (c.retry).first, (c.retry).acked, (c.retry).next, (c.retry).wait, (c.retry).known, (c.retry).mean, (c.retry).var, (c.retry).back, (c.retry).w0, (c.retry).w1, (c.retry).w2, (c.retry).w3, (c.retry).w4, (c.retry).lim, (c.retry).pts, (c.retry).pause, (c.retry).burst, (c.retry).rate, (c.retry).left, (c.retry).idle, (c.retry).age, (c.retry).tries, (c.retry).quiet, (c.retry).heard)) := by
  unfold f94_broughamref21_Retry
  by_cases z : c.st = 1
  · refine Ev.neg (by simpa using z) ?_
    refine Ev.bind (pat_rf h) ?_
    rintro _ rfl
    by_cases y : c.age < pat c
    · have ea : again c = false := by unfold again; rw [if_pos z, if_pos y]
      have er : c.retry = c := by unfold C.retry; rw [if_neg (by rw [ea]; decide)]
      rw [er, ea]
      exact Ev.pos (by simpa using y) (Ev.some rfl)
    · have ea : again c = true := by unfold again; rw [if_pos z, if_neg y]
      have er : c.retry = { c.bk with age := 0, tries := IntKind.wrap .i64 (c.tries + 1) } := by unfold C.retry; rw [if_pos ea]
      rw [er, ea]
      refine Ev.neg (by simpa using y) ?_
      refine Ev.bind (Ev.of (bk_rf h) rfl) ?_
      rintro _ rfl
      exact Ev.some rfl
  · have ea : again c = false := by unfold again; rw [if_neg z]
    have er : c.retry = c := by unfold C.retry; rw [if_neg (by rw [ea]; decide)]
    rw [er, ea]
    exact Ev.pos (by simpa using z) (Ev.some rfl)
theorem rise_fl (q : Q) {c : C} (h : I c) : f30_flow_Flow_Rise c.st c.first c.acked c.next c.wait c.mean c.var c.known c.back q.id q.path q.lo q.re false false 0 0 c.idle c.quiet c.heard c.age c.tries c.w0 c.w1 c.w2 c.w3 c.w4 c.pts c.lim c.pause c.burst c.rate c.left = some ((c.rise).st, (c.rise).first, (c.rise).acked, (c.rise).next, (c.rise).wait, (c.rise).mean, (c.rise).var, (c.rise).known, (c.rise).back, q.id, q.path, q.lo, q.re, false, false, 0, 0, (c.rise).idle, (c.rise).quiet, (c.rise).heard, (c.rise).age, (c.rise).tries, (c.rise).w0, (c.rise).w1, (c.rise).w2, (c.rise).w3, (c.rise).w4, (c.rise).pts, (c.rise).lim, (c.rise).pause, (c.rise).burst, (c.rise).rate, (c.rise).left) := by
  unfold f30_flow_Flow_Rise
  rw [max_is]; rfl
theorem rise_rf {c : C} (h : I c) : f98_broughamref21_Rise c.st c.first c.acked c.next c.wait c.known c.mean c.var c.back c.w0 c.w1 c.w2 c.w3 c.w4 c.lim c.pts c.pause c.burst c.rate c.left c.idle c.age c.tries c.quiet c.heard = some ((c.rise).st, (c.rise).first, (c.rise).acked, (c.rise).next, (c.rise).wait, (c.rise).known, (c.rise).mean, (c.rise).var, (c.rise).back, (c.rise).w0, (c.rise).w1, (c.rise).w2, (c.rise).w3, (c.rise).w4, (c.rise).lim, (c.rise).pts, (c.rise).pause, (c.rise).burst, (c.rise).rate, (c.rise).left, (c.rise).idle, (c.rise).age, (c.rise).tries, (c.rise).quiet, (c.rise).heard) := by
  unfold f98_broughamref21_Rise
  rw [ahead_is h.acked (wrap_u32 _)]; rfl
theorem above_is (n : Int) : f130_broughamref12_above n = some (m0 n) := by
  unfold f130_broughamref12_above m0
  by_cases z : n < 0
  · rw [if_pos (by simpa using z), if_pos z]
  · rw [if_neg (by simpa using z), if_neg z]
theorem sample_rf {c : C} (h : I c) (n : Int) : f100_broughamref12_Sample c.known c.mean c.var c.back n = some ((c.sample n).known, (c.sample n).mean, (c.sample n).var, (c.sample n).back) := by
  have h1 := h.mean; have h2 := h.var; have h3 := cT_in n; have h4 := mean_q h
  unfold f100_broughamref12_Sample C.sample
  rw [Within_is, Option.bind_some, tdiv_e h1.1, tdiv_e h2.1, i64_id (e := c.mean / 8) (by omega) (by omega), i64_id (e := c.var / 4) (by omega) (by omega), i64_id (e := cT n - c.mean / 8) (by omega) (by omega), i64_id (e := 8 * cT n) (by omega) (by omega), i64_id (e := 2 * cT n) (by omega) (by omega),
    i64_id (e := c.mean + (cT n - c.mean / 8)) (by omega) (by omega), i64_id (e := 0 - (cT n - c.mean / 8)) (by omega) (by omega), i64_id (e := c.var + (0 - (cT n - c.mean / 8))) (by omega) (by omega), i64_id (e := c.var + (cT n - c.mean / 8)) (by omega) (by omega),
    i64_id (e := c.var + (0 - (cT n - c.mean / 8)) - c.var / 4) (by omega) (by omega), i64_id (e := c.var + (cT n - c.mean / 8) - c.var / 4) (by omega) (by omega), above_is, above_is, above_is, Option.bind_some]
  cases hk : c.known with
  | false => rfl
  | true =>
    rw [if_neg (by decide), if_pos rfl]
    show _ = some (true, m0 (c.mean + (cT n - c.mean / 8)), m0 (c.var + ab (cT n - c.mean / 8) - c.var / 4), (0 : Int))
    by_cases z : cT n - c.mean / 8 < 0
    · have ea : ab (cT n - c.mean / 8) = 0 - (cT n - c.mean / 8) := by unfold ab; rw [if_pos z]
      rw [if_pos (by simpa using z), ea]; rfl
    · have ea : ab (cT n - c.mean / 8) = cT n - c.mean / 8 := by unfold ab; rw [if_neg z]
      rw [if_neg (by simpa using z), ea]; rfl
theorem sample_fl (q : Q) {c : C} (h : I c) (n : Int) : f99_rto_Est_Sample n c.st c.first c.acked c.next c.wait c.mean c.var c.known c.back q.id q.path q.lo q.re false false 0 0 c.idle c.quiet c.heard c.age c.tries c.w0 c.w1 c.w2 c.w3 c.w4 c.pts c.lim c.pause c.burst c.rate c.left = some ((c.sample n).st, (c.sample n).first, (c.sample n).acked, (c.sample n).next, (c.sample n).wait, (c.sample n).mean, (c.sample n).var, (c.sample n).known, (c.sample n).back, q.id, q.path, q.lo, q.re, false, false, 0, 0, (c.sample n).idle, (c.sample n).quiet, (c.sample n).heard, (c.sample n).age, (c.sample n).tries, (c.sample n).w0, (c.sample n).w1, (c.sample n).w2, (c.sample n).w3, (c.sample n).w4, (c.sample n).pts, (c.sample n).lim, (c.sample n).pause, (c.sample n).burst, (c.sample n).rate, (c.sample n).left) := by
  have h1 := h.mean; have h2 := h.var; have h3 := cT_in n; have h4 := mean_q h
  unfold f99_rto_Est_Sample C.sample
  have ec : (if 4096 < (if n < 0 then 0 else n) then 4096 else (if n < 0 then 0 else n)) = cT n := rfl
  simp only [ec]
  rw [tdiv_e h1.1, tdiv_e h2.1, i64_id (e := c.mean / 8) (by omega) (by omega), i64_id (e := c.var / 4) (by omega) (by omega), i64_id (e := cT n - c.mean / 8) (by omega) (by omega), i64_id (e := cT n * 8) (by omega) (by omega), i64_id (e := cT n * 2) (by omega) (by omega),
    i64_id (e := c.mean + (cT n - c.mean / 8)) (by omega) (by omega), i64_id (e := 0 - (cT n - c.mean / 8)) (by omega) (by omega), i64_id (e := c.var + (0 - (cT n - c.mean / 8))) (by omega) (by omega), i64_id (e := c.var + (cT n - c.mean / 8)) (by omega) (by omega),
    i64_id (e := c.var + (0 - (cT n - c.mean / 8)) - c.var / 4) (by omega) (by omega), i64_id (e := c.var + (cT n - c.mean / 8) - c.var / 4) (by omega) (by omega)]
  cases hk : c.known with
  | false => rw [Int.mul_comm (cT n) 8, Int.mul_comm (cT n) 2]; rfl
  | true =>
    rw [if_neg (by decide)]
    by_cases z : cT n - c.mean / 8 < 0
    · have ea : ab (cT n - c.mean / 8) = 0 - (cT n - c.mean / 8) := by unfold ab; rw [if_pos z]
      rw [if_pos (by simpa using z), ea, if_pos rfl, ← hk]; rfl
    · have ea : ab (cT n - c.mean / 8) = cT n - c.mean / 8 := by unfold ab; rw [if_neg z]
      rw [if_neg (by simpa using z), ea, if_pos rfl, ← hk]; rfl
theorem sent_fl (q : Q) {c : C} (h : I c) (s0 s1 s2 s3 s4 : Int) (h4 : 0 ≤ s4 ∧ s4 < 256) (s5 : List (Int × List Int)) (s6 : List Int) : f31_flow_Flow_Sent s0 s1 s2 s3 s4 s5 s6 c.st c.first c.acked c.next c.wait c.mean c.var c.known c.back q.id q.path q.lo q.re false false 0 0 c.idle c.quiet c.heard c.age c.tries c.w0 c.w1 c.w2 c.w3 c.w4 c.pts c.lim c.pause c.burst c.rate c.left = some ((c.sent s4 s6).next, (c.sent s4 s6).st, (c.sent s4 s6).first, (c.sent s4 s6).acked, (c.sent s4 s6).next, (c.sent s4 s6).wait, (c.sent s4 s6).mean, (c.sent s4 s6).var, (c.sent s4 s6).known, (c.sent s4 s6).back, q.id, q.path, q.lo, q.re, false, false, 0, 0, (c.sent s4 s6).idle, (c.sent s4 s6).quiet, (c.sent s4 s6).heard, (c.sent s4 s6).age, (c.sent s4 s6).tries, (c.sent s4 s6).w0, (c.sent s4 s6).w1, (c.sent s4 s6).w2, (c.sent s4 s6).w3, (c.sent s4 s6).w4, (c.sent s4 s6).pts, (c.sent s4 s6).lim, (c.sent s4 s6).pause, (c.sent s4 s6).burst, (c.sent s4 s6).rate, (c.sent s4 s6).left) := by
  have e : bits .and .u8 s4 1 = s4 % 2 := bits_mask .u8 8 (by decide) wraps_u8 1 (by decide) s4 h4.1 (by omega)
  unfold f31_flow_Flow_Sent f74_seg_Take C.sent
  rw [e]
  by_cases z : s4 % 2 = 0
  · rw [if_pos (by simpa using z), if_neg (by simpa using z), if_pos z]; rfl
  · rw [if_neg (by simpa using z), if_neg z]
theorem sent_rf {c : C} (h : I c) (s0 s1 s2 s3 s4 : Int) (h4 : 0 ≤ s4 ∧ s4 < 256) (s5 : List (Int × List Int)) (s6 : List Int) : f103_broughamref21_Sent c.st c.first c.acked c.next c.wait c.known c.mean c.var c.back c.w0 c.w1 c.w2 c.w3 c.w4 c.lim c.pts c.pause c.burst c.rate c.left c.idle c.age c.tries c.quiet c.heard s0 s1 s2 s3 s4 s5 s6 = some ((c.sent s4 s6).st, (c.sent s4 s6).first, (c.sent s4 s6).acked, (c.sent s4 s6).next, (c.sent s4 s6).wait, (c.sent s4 s6).known, (c.sent s4 s6).mean, (c.sent s4 s6).var, (c.sent s4 s6).back, (c.sent s4 s6).w0, (c.sent s4 s6).w1, (c.sent s4 s6).w2, (c.sent s4 s6).w3, (c.sent s4 s6).w4, (c.sent s4 s6).lim, (c.sent s4 s6).pts, (c.sent s4 s6).pause, (c.sent s4 s6).burst, (c.sent s4 s6).rate, (c.sent s4 s6).left, (c.sent s4 s6).idle, (c.sent s4 s6).age, (c.sent s4 s6).tries, (c.sent s4 s6).quiet, (c.sent s4 s6).heard) := by
  unfold f103_broughamref21_Sent C.sent
  rw [tmod_e h4.1]
  by_cases z : s4 % 2 = 0
  · rw [if_pos (by simpa using z), if_pos z]
  · rw [if_neg (by simpa using z), if_neg z]
theorem one5 (q : Q) {c : C} (h : I c) (o0 o1 s0 s1 s2 s3 s4 : Int) (h3 : U32 s3) (h4 : 0 ≤ s4 ∧ s4 < 256) (s5 : List (Int × List Int)) (s6 : List Int) : Ev (fun n => f57_broughamlaw21_one_L5 n c.st c.first c.acked c.next c.wait c.mean c.var c.known c.back q.id q.path q.lo q.re false false 0 0 c.idle c.quiet c.heard c.age c.tries c.w0 c.w1 c.w2 c.w3 c.w4 c.pts c.lim c.pause c.burst c.rate c.left c.st c.first c.acked c.next c.wait c.known c.mean c.var c.back c.w0 c.w1 c.w2 c.w3 c.w4 c.lim c.pts c.pause c.burst c.rate c.left c.idle c.age c.tries c.quiet c.heard o0 o1 s0 s1 s2 s3 s4 s5 s6 0 0 0 0 0 false 0 0 0 0 0 0 0 0 0 0 0 0 0 0 0 0 0 0 false) (fun r => ∃ c : C, r = (true, c.st, c.first, c.acked, c.next, c.wait, c.mean, c.var, c.known, c.back, q.id, q.path, q.lo, q.re, false, false, 0, 0, c.idle, c.quiet, c.heard, c.age, c.tries, c.w0, c.w1, c.w2, c.w3, c.w4, c.pts, c.lim, c.pause, c.burst, c.rate, c.left, c.st, c.first, c.acked, c.next, c.wait, c.known, c.mean, c.var, c.back, c.w0, c.w1, c.w2, c.w3, c.w4, c.lim, c.pts, c.pause, c.burst, c.rate, c.left, c.idle, c.age, c.tries, c.quiet, c.heard) ∧ I c) := by
  apply Ev.succ
  unfold f57_broughamlaw21_one_L5
  refine Ev.bind (Ev.of (came_rf h s0 s1 s2 s3 s4 h3 s5 s6) rfl) ?_
  rintro _ rfl
  refine Ev.bind (Ev.of (came_fl q h s0 s1 s2 s3 s4 h4 s5 s6) rfl) ?_
  rintro _ rfl
  exact Ev.some ⟨c.came s2 s3 s4 s6, Prod.ext (beq_self_eq_true _) rfl, h.came s2 h3 s4 s6⟩
theorem one7 (q : Q) {c : C} (h : I c) (o0 o1 s0 s1 s2 s3 s4 : Int) (h3 : U32 s3) (h4 : 0 ≤ s4 ∧ s4 < 256) (s5 : List (Int × List Int)) (s6 : List Int) (k : Int) : Ev (fun n => f57_broughamlaw21_one_L7 n k c.st c.first c.acked c.next c.wait c.mean c.var c.known c.back q.id q.path q.lo q.re false false 0 0 c.idle c.quiet c.heard c.age c.tries c.w0 c.w1 c.w2 c.w3 c.w4 c.pts c.lim c.pause c.burst c.rate c.left c.st c.first c.acked c.next c.wait c.known c.mean c.var c.back c.w0 c.w1 c.w2 c.w3 c.w4 c.lim c.pts c.pause c.burst c.rate c.left c.idle c.age c.tries c.quiet c.heard o0 o1 s0 s1 s2 s3 s4 s5 s6 0 0 0 0 0 false 0 0 0 0 0 0 0 0 0 0 0 0 0 0 0 0 0 0 false) (fun r => ∃ c : C, r = (true, c.st, c.first, c.acked, c.next, c.wait, c.mean, c.var, c.known, c.back, q.id, q.path, q.lo, q.re, false, false, 0, 0, c.idle, c.quiet, c.heard, c.age, c.tries, c.w0, c.w1, c.w2, c.w3, c.w4, c.pts, c.lim, c.pause, c.burst, c.rate, c.left, c.st, c.first, c.acked, c.next, c.wait, c.known, c.mean, c.var, c.back, c.w0, c.w1, c.w2, c.w3, c.w4, c.lim, c.pts, c.pause, c.burst, c.rate, c.left, c.idle, c.age, c.tries, c.quiet, c.heard) ∧ I c) := by
  apply Ev.succ
  unfold f57_broughamlaw21_one_L7
  refine Ev.ite (fun _ => ?_) (fun _ => ?_)
  · refine Ev.bind (Ev.of (tick_fl q h) rfl) ?_
    rintro _ rfl
    refine Ev.bind (tick_rf h) ?_
    rintro _ rfl
    exact Ev.some ⟨c.tick, rfl, h.tick⟩
  refine Ev.ite (fun _ => ?_) (fun _ => ?_)
  · refine Ev.bind (retry_rf h) ?_
    rintro _ rfl
    refine Ev.bind (Ev.of (retry_fl q h) rfl) ?_
    rintro _ rfl
    exact Ev.some ⟨c.retry, Prod.ext (beq_self_eq_true _) rfl, h.retry⟩
  refine Ev.ite (fun _ => ?_) (fun _ => ?_)
  · refine Ev.bind (Ev.of rfl rfl) ?_
    rintro _ rfl
    refine Ev.bind (Ev.of rfl rfl) ?_
    rintro _ rfl
    exact Ev.some ⟨c.asked s2, rfl, h.asked s2⟩
  refine Ev.ite (fun _ => ?_) (fun _ => ?_)
  · refine Ev.bind (Ev.of rfl rfl) ?_
    rintro _ rfl
    refine Ev.bind (Ev.of rfl rfl) ?_
    rintro _ rfl
    exact Ev.some ⟨c.answered s2, rfl, h.answered s2⟩
  refine Ev.ite (fun _ => ?_) (fun _ => ?_)
  · refine Ev.bind (Ev.of (rise_fl q h) rfl) ?_
    rintro _ rfl
    refine Ev.bind (Ev.of (rise_rf h) rfl) ?_
    rintro _ rfl
    exact Ev.some ⟨c.rise, rfl, h.rise⟩
  refine Ev.ite (fun _ => ?_) (fun _ => ?_)
  · refine Ev.bind (Ev.of (sample_fl q h o1) rfl) ?_
    rintro _ rfl
    refine Ev.bind (Ev.of (sample_rf h o1) rfl) ?_
    rintro _ rfl
    refine Ev.some ⟨c.sample o1, ?_, h.sample o1⟩
    unfold C.sample
    split <;> rfl
  refine Ev.ite (fun _ => ?_) (fun _ => ?_)
  · refine Ev.bind (Ev.of (bk_fl q h) rfl) ?_
    rintro _ rfl
    refine Ev.bind (Ev.of (bk_rf h) rfl) ?_
    rintro _ rfl
    exact Ev.some ⟨c.bk, rfl, h.bk⟩
  refine Ev.bind (Ev.of (sent_rf h s0 s1 s2 s3 s4 h4 s5 s6) rfl) ?_
  rintro _ rfl
  refine Ev.bind (Ev.of (sent_fl q h s0 s1 s2 s3 s4 h4 s5 s6) rfl) ?_
  rintro _ rfl
  exact Ev.some ⟨c.sent s4 s6, Prod.ext (beq_self_eq_true _) rfl, h.sent s4 s6⟩
theorem one_ev (q : Q) {c : C} (h : I c) (o0 o1 s0 s1 s2 s3 s4 : Int) (h3 : U32 s3) (h4 : 0 ≤ s4 ∧ s4 < 256) (s5 : List (Int × List Int)) (s6 : List Int) : Ev (fun n => f57_broughamlaw21_one n c.st c.first c.acked c.next c.wait c.known c.mean c.var c.back c.w0 c.w1 c.w2 c.w3 c.w4 c.lim c.pts c.pause c.burst c.rate c.left c.idle c.age c.tries c.quiet c.heard o0 o1 s0 s1 s2 s3 s4 s5 s6 c.st c.first c.acked c.next c.wait c.mean c.var c.known c.back q.id q.path q.lo q.re false false 0 0 c.idle c.quiet c.heard c.age c.tries c.w0 c.w1 c.w2 c.w3 c.w4 c.pts c.lim c.pause c.burst c.rate c.left) (fun r => ∃ c : C, r = (true, c.st, c.first, c.acked, c.next, c.wait, c.mean, c.var, c.known, c.back, q.id, q.path, q.lo, q.re, false, false, 0, 0, c.idle, c.quiet, c.heard, c.age, c.tries, c.w0, c.w1, c.w2, c.w3, c.w4, c.pts, c.lim, c.pause, c.burst, c.rate, c.left, c.st, c.first, c.acked, c.next, c.wait, c.known, c.mean, c.var, c.back, c.w0, c.w1, c.w2, c.w3, c.w4, c.lim, c.pts, c.pause, c.burst, c.rate, c.left, c.idle, c.age, c.tries, c.quiet, c.heard) ∧ I c) := by
  have a5 := one5 q h o0 o1 s0 s1 s2 s3 s4 h3 h4 s5 s6
  unfold f57_broughamlaw21_one
  generalize Int.tmod (IntKind.wrap .i64 (Int.tmod o0 11 + 11)) 11 = k
  have a7 := one7 q h o0 o1 s0 s1 s2 s3 s4 h3 h4 s5 s6 k
  refine Ev.ite (fun _ => ?_) (fun _ => ?_)
  · refine Ev.ite (fun _ => ?_) (fun _ => ?_)
    · refine Ev.bind a5 ?_
      rintro _ ⟨c', rfl, h'⟩
      exact Ev.some ⟨c', rfl, h'⟩
    · refine Ev.bind a7 ?_
      rintro _ ⟨c', rfl, h'⟩
      exact Ev.some ⟨c', rfl, h'⟩
  · refine Ev.ite (fun _ => ?_) (fun _ => ?_)
    · refine Ev.bind a5 ?_
      rintro _ ⟨c', rfl, h'⟩
      exact Ev.some ⟨c', rfl, h'⟩
    · refine Ev.bind a7 ?_
      rintro _ ⟨c', rfl, h'⟩
      exact Ev.some ⟨c', rfl, h'⟩
def mn (c : C) : Int := if c.known then (if c.mean / 8 < 1 then 1 else c.mean / 8) else 8
theorem mean_fl (q : Q) {c : C} (h : I c) : f134_rto_Est_Mean c.st c.first c.acked c.next c.wait c.mean c.var c.known c.back q.id q.path q.lo q.re false false 0 0 c.idle c.quiet c.heard c.age c.tries c.w0 c.w1 c.w2 c.w3 c.w4 c.pts c.lim c.pause c.burst c.rate c.left = some (mn c) := by
  have h1 := h.mean
  unfold f134_rto_Est_Mean mn
  rw [tdiv_e h1.1, i64_id (by omega) (by omega)]
  cases c.known <;> rfl
theorem mean_rf {c : C} (h : I c) : f105_broughamref12_Mean c.known c.mean c.var c.back = some (mn c) := by
  have h1 := h.mean
  unfold f105_broughamref12_Mean mn
  rw [tdiv_e h1.1, i64_id (by omega) (by omega)]
  cases c.known
  · rfl
  · rw [if_neg (by decide), if_pos rfl]
    by_cases z : c.mean < 8
    · rw [if_pos (by simpa using z), if_pos (by omega)]
    · rw [if_neg (by simpa using z), if_neg (by omega)]
theorem room_rf {c : C} (h : I c) : f106_broughamref13_Room c.w0 c.w1 c.w2 c.w3 c.w4 = some c.w1 := by
  have h1 := h.w1
  unfold f106_broughamref13_Room f121_broughamref13_within
  rw [h.w4, Int.sub_zero, i64_id (by omega) (by omega), if_neg (by simp only [decide_eq_true_eq]; omega), if_neg (by simp)]; rfl
theorem view_is (q : Q) {c : C} (h : I c) : f104_flow_Flow_View c.st c.first c.acked c.next c.wait c.mean c.var c.known c.back q.id q.path q.lo q.re false false 0 0 c.idle c.quiet c.heard c.age c.tries c.w0 c.w1 c.w2 c.w3 c.w4 c.pts c.lim c.pause c.burst c.rate c.left = some (c.st, c.first, c.acked, c.next, c.wait, c.mean, c.var, c.known, c.back, q.id, q.path, q.lo, q.re, false, false, 0, 0, c.idle, c.quiet, c.heard, c.age, c.tries, c.w0, c.w1, c.w2, c.w3, c.w4, c.pts, c.lim, c.pause, c.burst, c.rate, c.left, q.id, ((c.st : Int) == 3), false, (decide (c.pts ≥ c.lim)), c.w1, c.w4, mn c) := by
  have h1 := h.w1
  unfold f104_flow_Flow_View f131_quar_Score_Bad f132_cwnd_Window_Room f133_cwnd_Window_Under
  rw [mean_fl q h, h.w4, Int.sub_zero, i64_id (by omega) (by omega), if_neg (by omega)]
  rfl
theorem share_is (q : Q) {c : C} (h : I c) : f109_flow_Flow_Share c.st c.first c.acked c.next c.wait c.mean c.var c.known c.back q.id q.path q.lo q.re false false 0 0 c.idle c.quiet c.heard c.age c.tries c.w0 c.w1 c.w2 c.w3 c.w4 c.pts c.lim c.pause c.burst c.rate c.left = some (c.st, c.first, c.acked, c.next, c.wait, c.mean, c.var, c.known, c.back, q.id, q.path, q.lo, q.re, false, false, 0, 0, c.idle, c.quiet, c.heard, c.age, c.tries, c.w0, c.w1, c.w2, c.w3, c.w4, c.pts, c.lim, c.pause, c.burst, c.rate, c.left, c.w1, mn c) := by
  unfold f109_flow_Flow_Share f135_cwnd_Window_Size
  rw [mean_fl q h]; rfl
theorem same_ev (q : Q) {c : C} (h : I c) : Ev (fun n => f58_broughamlaw21_same n c.st c.first c.acked c.next c.wait c.known c.mean c.var c.back c.w0 c.w1 c.w2 c.w3 c.w4 c.lim c.pts c.pause c.burst c.rate c.left c.idle c.age c.tries c.quiet c.heard c.st c.first c.acked c.next c.wait c.mean c.var c.known c.back q.id q.path q.lo q.re false false 0 0 c.idle c.quiet c.heard c.age c.tries c.w0 c.w1 c.w2 c.w3 c.w4 c.pts c.lim c.pause c.burst c.rate c.left) (fun r => r = (true, c.st, c.first, c.acked, c.next, c.wait, c.mean, c.var, c.known, c.back, q.id, q.path, q.lo, q.re, false, false, 0, 0, c.idle, c.quiet, c.heard, c.age, c.tries, c.w0, c.w1, c.w2, c.w3, c.w4, c.pts, c.lim, c.pause, c.burst, c.rate, c.left)) := by
  unfold f58_broughamlaw21_same
  refine Ev.bind (Ev.of (view_is q h) rfl) ?_
  rintro _ rfl
  refine Ev.bind (Ev.of (mean_rf h) rfl) ?_
  rintro _ rfl
  refine Ev.bind (Ev.of (room_rf h) rfl) ?_
  rintro _ rfl
  dsimp only
  refine Ev.pos (beq_self_eq_true _) ?_
  refine Ev.pos (beq_self_eq_true _) ?_
  refine Ev.pos (beq_self_eq_true _) ?_
  refine Ev.pos (beq_self_eq_true _) ?_
  refine Ev.pos (beq_self_eq_true _) ?_
  refine Ev.pos (beq_self_eq_true _) ?_
  refine Ev.pos (beq_self_eq_true _) ?_
  refine Ev.pos (beq_self_eq_true _) ?_
  refine Ev.pos (beq_self_eq_true _) ?_
  refine Ev.pos (beq_self_eq_true _) ?_
  refine Ev.bind (Ev.of (pat_fl q h) rfl) ?_
  rintro _ rfl
  refine Ev.bind (pat_rf h) ?_
  rintro _ rfl
  refine Ev.pos (beq_self_eq_true _) ?_
  refine Ev.pos (by simp) ?_
  refine Ev.bind (Ev.of (share_is q h) rfl) ?_
  rintro _ rfl
  refine Ev.pos (by simp) ?_
  refine Ev.bind (Ev.of rfl rfl) ?_
  rintro _ rfl
  exact Ev.some (Prod.ext (beq_self_eq_true _) rfl)
abbrev Op := Int × Int × Int × Int × Int × Int × Int × List (Int × List Int) × List Int
theorem gr1_loop (s0 s1 s2 s3 s4 : Int) (l : List (Int × List Int)) (s6 : List Int) (hl : l.length ≤ 120) : ∀ (d : Nat) (i : Int) (hi : 0 ≤ i ∧ i + d = l.length), Ev (fun n => f87_broughamlaw07_Great_L4 n i s0 s1 s2 s3 s4 l s6) (fun r => r = .inl true ∨ r = .inr ())
  | 0, i, hi => by
    apply Ev.succ
    unfold f87_broughamlaw07_Great_L4
    exact Ev.neg (by simp only [decide_eq_true_eq]; omega) (Ev.some (.inr rfl))
  | d + 1, i, hi => by
    apply Ev.succ
    unfold f87_broughamlaw07_Great_L4
    refine Ev.pos (by simp only [decide_eq_true_eq]; omega) (Ev.guard (by omega) (Ev.ite (fun _ => Ev.some (.inl rfl)) (fun h2 => ?_)))
    rw [i64_id (by omega) (by omega)]
    exact gr1_loop s0 s1 s2 s3 s4 l s6 hl d (i + 1) (by omega)
theorem gr1 (s0 s1 s2 s3 s4 : Int) (l : List (Int × List Int)) (s6 : List Int) : Ev (fun n => f87_broughamlaw07_Great n s0 s1 s2 s3 s4 l s6) (fun r => r = true ∨ r = false) := by
  unfold f87_broughamlaw07_Great
  refine Ev.ite (fun _ => Ev.some (.inl rfl)) (fun h1 => Ev.ite (fun _ => Ev.some (.inl rfl)) (fun h2 => ?_))
  simp only [gt_iff_lt, decide_eq_true_eq] at h1 h2
  refine Ev.bind (gr1_loop s0 s1 s2 s3 s4 l s6 (by omega) l.length 0 (by omega)) ?_
  rintro _ (rfl | rfl)
  · exact Ev.some (.inl rfl)
  · exact Ev.some (.inr rfl)
theorem gr_loop (l : List Op) (hl : l.length ≤ 100) : ∀ (d : Nat) (i : Int) (hi : 0 ≤ i ∧ i + d = l.length), Ev (fun n => f55_broughamlaw21_great_L4 n l i) (fun r => r = .inl true ∨ r = .inr ())
  | 0, i, hi => by
    apply Ev.succ
    unfold f55_broughamlaw21_great_L4
    exact Ev.neg (by simp only [decide_eq_true_eq]; omega) (Ev.some (.inr rfl))
  | d + 1, i, hi => by
    apply Ev.succ
    unfold f55_broughamlaw21_great_L4
    refine Ev.pos (by simp only [decide_eq_true_eq]; omega) (Ev.guard (by omega) ?_)
    refine Ev.bind (gr1 _ _ _ _ _ _ _) ?_
    intro r hr
    refine Ev.ite (fun _ => Ev.some (.inl rfl)) (fun _ => ?_)
    rw [i64_id (by omega) (by omega)]
    exact gr_loop l hl d (i + 1) (by omega)
theorem great_ev (l : List Op) : Ev (fun n => f55_broughamlaw21_great n l) (fun r => r = true ∨ (r = false ∧ l.length ≤ 100)) := by
  unfold f55_broughamlaw21_great
  refine Ev.ite (fun _ => Ev.some (.inl rfl)) (fun h1 => ?_)
  simp only [gt_iff_lt, decide_eq_true_eq] at h1
  refine Ev.bind (gr_loop l (by omega) l.length 0 (by omega)) ?_
  rintro _ (rfl | rfl)
  · exact Ev.some (.inl rfl)
  · exact Ev.some (.inr ⟨rfl, by omega⟩)
def OpOk (o : Op) : Prop := U32 o.2.2.2.2.2.1 ∧ 0 ≤ o.2.2.2.2.2.2.1 ∧ o.2.2.2.2.2.2.1 < 256
theorem play_loop (q : Q) (l : List Op) (hl : l.length ≤ 100) (ho : ∀ o ∈ l, OpOk o) : ∀ (d : Nat) (i : Int) (hi : 0 ≤ i ∧ i + d = l.length) {c : C} (h : I c), Ev (fun n => f13_broughamlaw21_FlowPlays_L8 n l i c.st c.first c.acked c.next c.wait c.mean c.var c.known c.back q.id q.path q.lo q.re false false 0 0 c.idle c.quiet c.heard c.age c.tries c.st c.first c.acked c.next c.wait c.known c.mean c.var c.back c.w0 c.w1 c.w2 c.w3 c.w4 c.lim c.pts c.pause c.burst c.rate c.left c.idle c.age c.tries c.quiet c.heard c.w0 c.w1 c.w2 c.w3 c.w4 c.pts c.lim c.pause c.burst c.rate c.left) (fun r => r = .inr ())
  | 0, i, hi, c, h => by
    apply Ev.succ
    unfold f13_broughamlaw21_FlowPlays_L8
    exact Ev.neg (by simp only [decide_eq_true_eq]; omega) (Ev.some rfl)
  | d + 1, i, hi, c, h => by
    have hop := ho _ (getD_mem (show i.toNat < l.length by omega) (0, (0, (0, (0, (0, (0, (0, ([], [])))))))))
    apply Ev.succ
    unfold f13_broughamlaw21_FlowPlays_L8
    refine Ev.pos (by simp only [decide_eq_true_eq]; omega) (Ev.guard (by omega) ?_)
    refine Ev.bind (one_ev q h _ _ _ _ _ _ _ hop.1 hop.2 _ _) ?_
    rintro _ ⟨c', rfl, h'⟩
    refine Ev.neg (by simp) ?_
    refine Ev.bind (same_ev q h') ?_
    rintro _ rfl
    refine Ev.neg (by simp) ?_
    rw [i64_id (by omega) (by omega)]
    exact play_loop q l hl ho d (i + 1) (by omega) h'
def c0 (mss burst rate score first : Int) : C := { st := 1, first := first, acked := first, next := IntKind.wrap .u32 (first + 1), wait := 0, known := false, mean := 0, var := 0, back := 0, w0 := (if 1024 < (if mss < 1 then 1 else mss) then 1024 else (if mss < 1 then 1 else mss)), w1 := IntKind.wrap .i64 (4 * (if 1024 < (if mss < 1 then 1 else mss) then 1024 else (if mss < 1 then 1 else mss))), w2 := IntKind.wrap .i64 (64 * (if 1024 < (if mss < 1 then 1 else mss) then 1024 else (if mss < 1 then 1 else mss))), w3 := 0, w4 := 0, lim := (if 4096 < (if score < 1 then 1 else score) then 4096 else (if score < 1 then 1 else score)), pts := 0, pause := 0, burst := cT burst, rate := cT rate, left := cT burst, idle := 0, age := 0, tries := 0, quiet := 0, heard := false }
theorem c0_in (mss burst rate score first : Int) (hf : U32 first) : I (c0 mss burst rate score first) := by
  have h1 := cT_in burst; have h2 := cT_in rate
  have hm : 1 ≤ (if 1024 < (if mss < 1 then 1 else mss) then 1024 else (if mss < 1 then 1 else mss)) ∧ (if 1024 < (if mss < 1 then 1 else mss) then 1024 else (if mss < 1 then 1 else mss)) ≤ 1024 := by split <;> split at * <;> omega
  exact { first := hf, acked := hf, next := wrap_u32 _, wait := (show (0 : Int) ≤ 0 ∧ (0 : Int) < 4294967296 by decide), mean := zi 32768 (by decide), var := zi 20000 (by decide), back := zi 8 (by decide), w1 := by
            show 0 ≤ IntKind.wrap .i64 _ ∧ IntKind.wrap .i64 _ ≤ _
            rw [i64_id (by omega) (by omega)]; omega
          w4 := rfl, pts := zi 4096 (by decide), pause := zi 7 (by decide), burst := h1, rate := h2, left := ⟨h1.1, Int.le_refl _⟩, idle := zi 4096 (by decide), age := zi 4096 (by decide), quiet := zi 16384 (by decide) }
theorem within13 (mss : Int) : f121_broughamref13_within mss 1 1024 = some (if 1024 < (if mss < 1 then 1 else mss) then 1024 else (if mss < 1 then 1 else mss)) := by
  unfold f121_broughamref13_within
  simp only [decide_eq_true_eq]
  by_cases a : mss < 1
  · simp only [if_pos a]; rfl
  · simp only [if_neg a]
    by_cases b : mss > 1024
    · rw [if_pos b, if_pos (by omega)]
    · rw [if_neg b, if_neg (by omega)]
theorem new14 (n : Int) : f89_broughamref14_New n = some ((if 4096 < (if n < 1 then 1 else n) then 4096 else (if n < 1 then 1 else n)), 0, 0) := by
  unfold f89_broughamref14_New
  rw [Within_is, Option.bind_some]
  by_cases a : n < 1
  · have hz : cT n = 0 := by
      unfold cT
      by_cases b : n < 0
      · simp only [if_pos b]; rfl
      · have : n = 0 := by omega
        subst this; rfl
    rw [hz]; simp only [if_pos a]; rfl
  · have hz : cT n = if 4096 < n then 4096 else n := by unfold cT; rw [if_neg (show ¬ n < 0 by omega)]
    have hp := cT_in n
    rw [if_neg (by simp only [beq_iff_eq]; rw [hz]; split <;> omega), hz, if_neg a]
theorem flnew (a0 a1 a2 a3 a4 a5 a6 a7 a8 a9 a10 a11 a12 a13 a14 id e0 e1 e2 first : Int) : f14_flow_New a0 a1 a2 a3 a4 a5 a6 a7 a8 a9 a10 a11 a12 a13 a14 id e0 e1 e2 first = some ((c0 a8 a11 a12 a13 first).st, (c0 a8 a11 a12 a13 first).first, (c0 a8 a11 a12 a13 first).acked, (c0 a8 a11 a12 a13 first).next, (c0 a8 a11 a12 a13 first).wait, (c0 a8 a11 a12 a13 first).mean, (c0 a8 a11 a12 a13 first).var, (c0 a8 a11 a12 a13 first).known, (c0 a8 a11 a12 a13 first).back, id, e0, e1, e2, false, false, 0, 0, (c0 a8 a11 a12 a13 first).idle, (c0 a8 a11 a12 a13 first).quiet, (c0 a8 a11 a12 a13 first).heard, (c0 a8 a11 a12 a13 first).age, (c0 a8 a11 a12 a13 first).tries, (c0 a8 a11 a12 a13 first).w0, (c0 a8 a11 a12 a13 first).w1, (c0 a8 a11 a12 a13 first).w2, (c0 a8 a11 a12 a13 first).w3, (c0 a8 a11 a12 a13 first).w4, (c0 a8 a11 a12 a13 first).pts, (c0 a8 a11 a12 a13 first).lim, (c0 a8 a11 a12 a13 first).pause, (c0 a8 a11 a12 a13 first).burst, (c0 a8 a11 a12 a13 first).rate, (c0 a8 a11 a12 a13 first).left) := by
  unfold f14_flow_New f59_cwnd_New f60_quar_New f61_bucket_New
  rfl
theorem rfnew (a0 a1 a2 a3 a4 a5 a6 a7 a8 a9 a10 a11 a12 a13 a14 first : Int) : f56_broughamref21_New a0 a1 a2 a3 a4 a5 a6 a7 a8 a9 a10 a11 a12 a13 a14 first = some ((c0 a8 a11 a12 a13 first).st, (c0 a8 a11 a12 a13 first).first, (c0 a8 a11 a12 a13 first).acked, (c0 a8 a11 a12 a13 first).next, (c0 a8 a11 a12 a13 first).wait, (c0 a8 a11 a12 a13 first).known, (c0 a8 a11 a12 a13 first).mean, (c0 a8 a11 a12 a13 first).var, (c0 a8 a11 a12 a13 first).back, (c0 a8 a11 a12 a13 first).w0, (c0 a8 a11 a12 a13 first).w1, (c0 a8 a11 a12 a13 first).w2, (c0 a8 a11 a12 a13 first).w3, (c0 a8 a11 a12 a13 first).w4, (c0 a8 a11 a12 a13 first).lim, (c0 a8 a11 a12 a13 first).pts, (c0 a8 a11 a12 a13 first).pause, (c0 a8 a11 a12 a13 first).burst, (c0 a8 a11 a12 a13 first).rate, (c0 a8 a11 a12 a13 first).left, (c0 a8 a11 a12 a13 first).idle, (c0 a8 a11 a12 a13 first).age, (c0 a8 a11 a12 a13 first).tries, (c0 a8 a11 a12 a13 first).quiet, (c0 a8 a11 a12 a13 first).heard) := by
  unfold f56_broughamref21_New f88_broughamref13_New f90_broughamref11_New
  rw [within13, new14, Within_is, Within_is]
  rfl
theorem FlowPlays (x0 : Int × Int × Int × Int × Int × Int × Int × Int × Int × Int × Int × Int × Int × Int × Int) (h0 : K.ok (.pair (.int .i64) ( .pair (.int .i64) ( .pair (.int .i64) ( .pair (.int .i64) ( .pair (.int .i64) ( .pair (.int .i64) ( .pair (.int .i64) ( .pair (.int .i64) ( .pair (.int .i64) ( .pair (.int .i64) ( .pair (.int .i64) ( .pair (.int .i64) ( .pair (.int .i64) ( .pair (.int .i64) (.int .i64))))))))))))))) x0) (first : Int) (h1 : K.ok (.int .u32) first) (l : List Op) (h2 : K.ok (.slice (.pair (.int .i64) (.pair (.int .i64) (.pair (.int .u16) (.pair (.int .u16) (.pair (.int .u32) (.pair (.int .u32) (.pair (.int .u8) (.pair (.slice (.pair (.int .u8) (.slice (.int .u8)))) (.slice (.int .u8))))))))))) l) : ∃ n, f13_broughamlaw21_FlowPlays n x0.1 x0.2.1 x0.2.2.1 x0.2.2.2.1 x0.2.2.2.2.1 x0.2.2.2.2.2.1 x0.2.2.2.2.2.2.1 x0.2.2.2.2.2.2.2.1 x0.2.2.2.2.2.2.2.2.1 x0.2.2.2.2.2.2.2.2.2.1 x0.2.2.2.2.2.2.2.2.2.2.1 x0.2.2.2.2.2.2.2.2.2.2.2.1 x0.2.2.2.2.2.2.2.2.2.2.2.2.1 x0.2.2.2.2.2.2.2.2.2.2.2.2.2.1 x0.2.2.2.2.2.2.2.2.2.2.2.2.2.2 first l = some true := by
  apply Ev.true
  unfold f13_broughamlaw21_FlowPlays
  refine Ev.bind (great_ev l) ?_
  rintro _ (rfl | ⟨rfl, hl⟩)
  · exact Ev.pos rfl (Ev.some rfl)
  refine Ev.neg (by simp) ?_
  refine Ev.bind (Ev.of (flnew x0.1 x0.2.1 x0.2.2.1 x0.2.2.2.1 x0.2.2.2.2.1 x0.2.2.2.2.2.1 x0.2.2.2.2.2.2.1 x0.2.2.2.2.2.2.2.1 x0.2.2.2.2.2.2.2.2.1 x0.2.2.2.2.2.2.2.2.2.1 x0.2.2.2.2.2.2.2.2.2.2.1 x0.2.2.2.2.2.2.2.2.2.2.2.1 x0.2.2.2.2.2.2.2.2.2.2.2.2.1 x0.2.2.2.2.2.2.2.2.2.2.2.2.2.1 x0.2.2.2.2.2.2.2.2.2.2.2.2.2.2 3 0 0 0 first) rfl) ?_
  rintro _ rfl
  refine Ev.bind (Ev.of (rfnew x0.1 x0.2.1 x0.2.2.1 x0.2.2.2.1 x0.2.2.2.2.1 x0.2.2.2.2.2.1 x0.2.2.2.2.2.2.1 x0.2.2.2.2.2.2.2.1 x0.2.2.2.2.2.2.2.2.1 x0.2.2.2.2.2.2.2.2.2.1 x0.2.2.2.2.2.2.2.2.2.2.1 x0.2.2.2.2.2.2.2.2.2.2.2.1 x0.2.2.2.2.2.2.2.2.2.2.2.2.1 x0.2.2.2.2.2.2.2.2.2.2.2.2.2.1 x0.2.2.2.2.2.2.2.2.2.2.2.2.2.2 first) rfl) ?_
  rintro _ rfl
  have ho : ∀ o ∈ l, OpOk o := fun o ho => ⟨ok_u32 (h2.2 o ho).2.2.2.2.2.1, ok_u8 (h2.2 o ho).2.2.2.2.2.2.1⟩
  refine Ev.bind (play_loop ⟨3, 0, 0, 0⟩ l hl ho l.length 0 (by omega) (c0_in x0.2.2.2.2.2.2.2.2.1 x0.2.2.2.2.2.2.2.2.2.2.2.1 x0.2.2.2.2.2.2.2.2.2.2.2.2.1 x0.2.2.2.2.2.2.2.2.2.2.2.2.2.1 first (ok_u32 h1))) ?_
  rintro _ rfl
  refine Ev.bind (Ev.of alive_is rfl) ?_
  rintro _ rfl
  exact Ev.some rfl
end Go.Proofs.YtdcnjkjgmagjmaaF21b
