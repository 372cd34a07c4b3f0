/- JudgeDecides: what becomes of each segment on each path, as the document says: of the functions that text F15 prints. Conditions: none. -/
import Derived.Test.YtdcnjkjgmagjmaaF15
import Derived.Test.YtdcnjkjgmagjmaaZedPb
namespace Go.Proofs.YtdcnjkjgmagjmaaF15
open Go Zed
set_option linter.unusedVariables false
set_option linter.unusedSimpArgs false

def fl (s4 f : Int) : Bool := s4 / f % 2 == 1
def wi (x f size : Int) : Bool := decide ((x - f) % 4294967296 < size)
def di (a b : Int) : Int := ((a - b) % 4294967296 + 2147483648) % 4294967296 - 2147483648
def be (x f t : Int) : Bool := (x != f) && (decide ((x - f) % 4294967296 ≤ (t - f) % 4294967296)) && !(decide (di t f < 0))
def near (s2 n4 : Int) : Bool := wi s2 n4 1048576 || wi n4 s2 1048576
def su (n2 n3 n4 s2 s3 s4 : Int) (sealed_ : Bool) : Bool := sealed_ && (s4 == 2) && near s2 n4 && (s3 == n2 || be s3 n2 n3 || wi n2 s3 1048576)
def J (n0 : Int) (f1 f2 f4 only1 only2 syn e wn e1 s : Bool) : Int :=
  if n0 == 1 then (if f2 && syn then (if f4 then 4 else if f1 then 1 else 2) else if only2 then 5 else 2)
  else if n0 == 2 then (if f4 then (if e then 4 else 2) else if f1 then (if only1 && e1 then 1 else 2) else if s then 1 else 2)
  else if n0 == 3 then (if f4 then (if e then 4 else if wn then 3 else 2) else if f1 then 3 else if s then 1 else 2)
  else 2

theorem and_fl {x : Int} (h : 0 ≤ x ∧ x < 256) : ((bits .and .u8 x 1 : Int) != 0) = fl x 1 ∧ ((bits .and .u8 x 2 : Int) != 0) = fl x 2 ∧ ((bits .and .u8 x 4 : Int) != 0) = fl x 4 := by
  obtain ⟨a, rfl⟩ := Int.eq_ofNat_of_zero_le h.1
  have hd : ∀ a : Fin 256, ((bits .and .u8 (a.val : Int) 1 : Int) != 0) = fl (a.val : Int) 1 ∧ ((bits .and .u8 (a.val : Int) 2 : Int) != 0) = fl (a.val : Int) 2 ∧ ((bits .and .u8 (a.val : Int) 4 : Int) != 0) = fl (a.val : Int) 4 := by decide +kernel
  exact hd ⟨a, by omega⟩
theorem within_is (x f size : Int) : f112_serial_Within x f size = some (wi x f size) := by
  unfold f112_serial_Within wi; rw [w_u32]
theorem near_is (x f : Int) : f136_serial_Near x f 1048576 = some (near x f) := by
  simp only [f136_serial_Near, within_is, Option.bind_some, near]
  cases wi x f 1048576 <;> simp
theorem between_is (x f t : Int) : f75_serial_Between x f t = some (be x f t) := by
  simp only [f75_serial_Between, f115_serial_Less, Option.bind_some, w_u32, w_i32, be]
  generalize (x != f) = a
  cases a
  · rfl
  · by_cases hp : (x - f) % 4294967296 ≤ (t - f) % 4294967296
    · simp [hp, di]
    · simp [hp, di]
theorem sure_is (n0 n1 n2 n3 n4 s0 s1 s2 s3 s4 : Int) (s5 : List (Int × List Int)) (s6 : List Int) (sealed_ : Bool) : f111_judge_sure n0 n1 n2 n3 n4 s0 s1 s2 s3 s4 s5 s6 sealed_ = some (cond (su n2 n3 n4 s2 s3 s4 sealed_) 1 2) := by
  simp only [f111_judge_sure, near_is, between_is, within_is, Option.bind_some, su]
  generalize (s4 == 2) = o; generalize near s2 n4 = x; generalize (s3 == n2) = y; generalize be s3 n2 n3 = z; generalize wi n2 s3 1048576 = w
  cases sealed_ <;> cases o <;> cases x <;> cases y <;> cases z <;> cases w <;> rfl
theorem judge_is (n0 n1 n2 n3 n4 s0 s1 s2 s3 s4 : Int) (s5 : List (Int × List Int)) (s6 : List Int) (sealed_ : Bool) (h4 : 0 ≤ s4 ∧ s4 < 256) :
    f23_judge_Judge n0 n1 n2 n3 n4 s0 s1 s2 s3 s4 s5 s6 sealed_ = some (J n0 (fl s4 1) (fl s4 2) (fl s4 4) (s4 == 1) (s4 == 2) (s3 == (n1 + 1) % 4294967296) (s2 == n4) (wi s2 n4 1048576) ((s2 + 1) % 4294967296 == n4) (su n2 n3 n4 s2 s3 s4 sealed_)) := by
  obtain ⟨a1, a2, a4⟩ := and_fl h4
  simp only [f23_judge_Judge, f64_judge_opening, f65_judge_half, f66_judge_up, sure_is, within_is, Option.bind_some, a1, a2, a4, w_u32, J]
  generalize fl s4 1 = f1; generalize fl s4 2 = f2; generalize fl s4 4 = f4
  generalize (s4 == 1) = o1; generalize (s4 == 2) = o2; generalize (s3 == (n1 + 1) % 4294967296) = sy
  generalize (s2 == n4) = e; generalize wi s2 n4 1048576 = wn; generalize ((s2 + 1) % 4294967296 == n4) = e1; generalize su n2 n3 n4 s2 s3 s4 sealed_ = s
  cases (n0 == 1)
  · cases (n0 == 2)
    · cases (n0 == 3)
      · rfl
      · cases f4 <;> cases e <;> cases wn <;> cases f1 <;> cases s <;> rfl
    · cases f4 <;> cases e <;> cases f1 <;> cases o1 <;> cases e1 <;> cases s <;> rfl
  · cases f2 <;> cases sy <;> cases o2 <;> cases f4 <;> cases f1 <;> rfl

theorem has1 (s0 s1 s2 s3 s4 : Int) (s5 : List (Int × List Int)) (s6 : List Int) (h4 : 0 ≤ s4 ∧ s4 < 256) : f67_broughamref15_has s0 s1 s2 s3 s4 s5 s6 1 = some (fl s4 1) := by
  unfold f67_broughamref15_has fl
  rw [if_pos (by decide), i64_id (show -9223372036854775808 ≤ s4 by omega) (by omega), tdiv_e h4.1, i64_id (show -9223372036854775808 ≤ s4 / 1 by omega) (by omega), tmod_e (by omega)]
theorem has2 (s0 s1 s2 s3 s4 : Int) (s5 : List (Int × List Int)) (s6 : List Int) (h4 : 0 ≤ s4 ∧ s4 < 256) : f67_broughamref15_has s0 s1 s2 s3 s4 s5 s6 2 = some (fl s4 2) := by
  unfold f67_broughamref15_has fl
  rw [if_pos (by decide), i64_id (show -9223372036854775808 ≤ s4 by omega) (by omega), tdiv_e h4.1, i64_id (show -9223372036854775808 ≤ s4 / 2 by omega) (by omega), tmod_e (by omega)]
theorem has4 (s0 s1 s2 s3 s4 : Int) (s5 : List (Int × List Int)) (s6 : List Int) (h4 : 0 ≤ s4 ∧ s4 < 256) : f67_broughamref15_has s0 s1 s2 s3 s4 s5 s6 4 = some (fl s4 4) := by
  unfold f67_broughamref15_has fl
  rw [if_pos (by decide), i64_id (show -9223372036854775808 ≤ s4 by omega) (by omega), tdiv_e h4.1, i64_id (show -9223372036854775808 ≤ s4 / 4 by omega) (by omega), tmod_e (by omega)]
abbrev U32 (x : Int) : Prop := 0 ≤ x ∧ x < 4294967296
theorem ahead_is (f x : Int) (hf : U32 f) (hx : U32 x) : f113_broughamref04_ahead f x = some ((x - f) % 4294967296) := by
  unfold f113_broughamref04_ahead
  obtain ⟨a, b⟩ := hf; obtain ⟨c, d⟩ := hx
  rw [i64_id (show -9223372036854775808 ≤ x by omega) (by omega), i64_id (show -9223372036854775808 ≤ f by omega) (by omega), i64_id (show -9223372036854775808 ≤ x - f by omega) (by omega), i64_id (show -9223372036854775808 ≤ x - f + 4294967296 by omega) (by omega)]
  split
  · rename_i h; simp at h; congr 1; omega
  · rename_i h; simp at h; congr 1; omega
theorem refWithin_is (x f : Int) (hf : U32 f) (hx : U32 x) : f69_broughamref04_Within x f 1048576 = some (wi x f 1048576) := by
  simp only [f69_broughamref04_Within, ahead_is f x hf hx, Option.bind_some, wi, show IntKind.wrap .i64 1048576 = 1048576 by decide]
theorem diff_is (a b : Int) (ha : U32 a) (hb : U32 b) : f137_broughamref04_Diff a b = some (di a b) := by
  unfold f137_broughamref04_Diff di
  obtain ⟨p, q⟩ := ha; obtain ⟨r, s⟩ := hb
  rw [i64_id (show -9223372036854775808 ≤ a by omega) (by omega), i64_id (show -9223372036854775808 ≤ b by omega) (by omega), i64_id (show -9223372036854775808 ≤ a - b by omega) (by omega), i64_id (show -9223372036854775808 ≤ a - b + 4294967296 by omega) (by omega),
    i64_id (show -9223372036854775808 ≤ a - b - 4294967296 by omega) (by omega), i64_id (show -9223372036854775808 ≤ a - b + 4294967296 - 4294967296 by omega) (by omega)]
  split
  · rename_i h; simp at h
    split
    · rename_i h2; simp at h2; congr 1; omega
    · congr 1; omega
  · rename_i h; simp at h
    split
    · rename_i h2; simp at h2; congr 1; omega
    · rename_i h2; simp at h2; congr 1; omega
theorem refBetween_is (x f t : Int) (hx : U32 x) (hf : U32 f) (ht : U32 t) : f114_broughamref04_Between x f t = some (be x f t) := by
  simp only [f114_broughamref04_Between, diff_is t f ht hf, ahead_is f x hf hx, ahead_is f t hf ht, Option.bind_some, be]
  by_cases h : di t f < 0
  · rw [if_neg (by simp; omega)]; simp [h]
  · rw [if_pos (by simp; omega)]
    generalize (x != f) = a
    cases a
    · rfl
    · simp [h]
theorem fits_is (n0 n1 n2 n3 n4 s0 s1 s2 s3 s4 : Int) (s5 : List (Int × List Int)) (s6 : List Int) (sealed_ : Bool) (h2 : U32 n2) (h3 : U32 n3) (h4 : U32 n4) (k2 : U32 s2) (k3 : U32 s3) :
    f70_broughamref15_Fits n0 n1 n2 n3 n4 s0 s1 s2 s3 s4 s5 s6 sealed_ = some (su n2 n3 n4 s2 s3 s4 sealed_) := by
  simp only [f70_broughamref15_Fits, refWithin_is _ _ h4 k2, refWithin_is _ _ k2 h4, refWithin_is _ _ k3 h2, refBetween_is _ _ _ k3 h2 h3, Option.bind_some, su, near]
  generalize (s4 == 2) = o; generalize wi s2 n4 1048576 = x; generalize wi n4 s2 1048576 = x'; generalize (s3 == n2) = y; generalize be s3 n2 n3 = z; generalize wi n2 s3 1048576 = w
  cases sealed_ <;> cases o <;> cases x <;> cases x' <;> cases y <;> cases z <;> cases w <;> rfl
theorem pass_is (b : Bool) : f68_broughamref15_pass b = some (if b then 1 else 2) := by cases b <;> rfl
theorem refJudge_is (n0 n1 n2 n3 n4 s0 s1 s2 s3 s4 : Int) (s5 : List (Int × List Int)) (s6 : List Int) (sealed_ : Bool) (h2 : U32 n2) (h3 : U32 n3) (h4 : U32 n4) (k2 : U32 s2) (k3 : U32 s3) (k4 : 0 ≤ s4 ∧ s4 < 256) :
    f24_broughamref15_Judge n0 n1 n2 n3 n4 s0 s1 s2 s3 s4 s5 s6 sealed_ = some (J n0 (fl s4 1) (fl s4 2) (fl s4 4) (s4 == 1) (s4 == 2) (s3 == (n1 + 1) % 4294967296) (s2 == n4) (wi s2 n4 1048576) ((s2 + 1) % 4294967296 == n4) (su n2 n3 n4 s2 s3 s4 sealed_)) := by
  simp only [f24_broughamref15_Judge, has1 _ _ _ _ _ _ _ k4, has2 _ _ _ _ _ _ _ k4, has4 _ _ _ _ _ _ _ k4, refWithin_is _ _ h4 k2, fits_is n0 n1 n2 n3 n4 s0 s1 s2 s3 s4 s5 s6 sealed_ h2 h3 h4 k2 k3, pass_is, Option.bind_some, w_u32, J, bne]
  generalize fl s4 1 = f1; generalize fl s4 2 = f2; generalize fl s4 4 = f4
  generalize (s4 == 1) = o1; generalize (s4 == 2) = o2; generalize (s3 == (n1 + 1) % 4294967296) = sy
  generalize (s2 == n4) = e; generalize wi s2 n4 1048576 = wn; generalize ((s2 + 1) % 4294967296 == n4) = e1; generalize su n2 n3 n4 s2 s3 s4 sealed_ = s
  by_cases q1 : n0 = 1
  · subst q1
    cases f2 <;> cases sy <;> cases o2 <;> cases f4 <;> cases f1 <;> rfl
  · by_cases q2 : n0 = 2
    · subst q2
      cases f4 <;> cases e <;> cases f1 <;> cases o1 <;> cases e1 <;> cases s <;> rfl
    · by_cases q3 : n0 = 3
      · subst q3
        cases f4 <;> cases e <;> cases wn <;> cases f1 <;> cases s <;> rfl
      · have e1' : (n0 == 1) = false := by simpa using q1
        have e2' : (n0 == 2) = false := by simpa using q2
        have e3' : (n0 == 3) = false := by simpa using q3
        simp [e1', e2', e3']
theorem alive_is : f25_broughamlaw15_alive = some true := by decide +kernel

theorem JudgeDecides (n : Int × Int × Int × Int × Int) (h0 : K.ok (.pair (.int .i64) (.pair (.int .u32) (.pair (.int .u32) (.pair (.int .u32) (.int .u32))))) n)
    (s : Int × Int × Int × Int × Int × List (Int × List Int) × List Int) (h1 : K.ok (.pair (.int .u16) (.pair (.int .u16) (.pair (.int .u32) (.pair (.int .u32) (.pair (.int .u8) (.pair (.slice (.pair (.int .u8) (.slice (.int .u8)))) (.slice (.int .u8)))))))) s)
    (sealed_ : Bool) (h2 : K.ok .bool sealed_) : f4_broughamlaw15_JudgeDecides n.1 n.2.1 n.2.2.1 n.2.2.2.1 n.2.2.2.2 s.1 s.2.1 s.2.2.1 s.2.2.2.1 s.2.2.2.2.1 s.2.2.2.2.2.1 s.2.2.2.2.2.2 sealed_ = some true := by
  obtain ⟨n0, n1, n2, n3, n4⟩ := n
  obtain ⟨s0, s1, s2, s3, s4, s5, s6⟩ := s
  obtain ⟨_, a1, a2, a3, a4⟩ := h0
  obtain ⟨_, _, b2, b3, b4, _⟩ := h1
  have c2 := ok_u32 a2; have c3 := ok_u32 a3; have c4 := ok_u32 a4; have d2 := ok_u32 b2; have d3 := ok_u32 b3; have d4 := ok_u8 b4
  show f4_broughamlaw15_JudgeDecides n0 n1 n2 n3 n4 s0 s1 s2 s3 s4 s5 s6 sealed_ = some true
  simp only [f4_broughamlaw15_JudgeDecides, judge_is _ _ _ _ _ _ _ _ _ _ _ _ _ d4, refJudge_is _ _ _ _ _ _ _ _ _ _ _ _ _ c2 c3 c4 d2 d3 d4, Option.bind_some, beq_self_eq_true, if_true, alive_is]
end Go.Proofs.YtdcnjkjgmagjmaaF15
