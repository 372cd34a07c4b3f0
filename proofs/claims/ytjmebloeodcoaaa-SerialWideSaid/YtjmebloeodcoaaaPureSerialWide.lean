/- SerialWide: the program's Wide gives the number of 64 bits nearest to one whose lowest 32 bits are these, as the reference does. Conditions: none. -/
import Derived.Test.YtjmebloeodcoaaaPSerialWidex1
namespace Go.Proofs.Ytjmebloeodcoaaa.Pure
open Go.RowKit Go.Proofs.Ytjmebloeodcoaaa.PSerialWide Go.Proofs.YtjmebloeodcoaaaW.PrintWords Go.Proofs.YtjmebloeodcoaaaW.PrintLast

namespace SerialWide

theorem bd_u64 {n : Int} (h : (Lit.int .u64 n).wf = true) : 0 ≤ n ∧ n < 18446744073709551616 := by
  simp [Lit.wf, IntKind.min, IntKind.max, IntKind.signed, IntKind.bits] at h; omega
theorem bd_u32 {n : Int} (h : (Lit.int .u32 n).wf = true) : 0 ≤ n ∧ n < 4294967296 := by
  simp [Lit.wf, IntKind.min, IntKind.max, IntKind.signed, IntKind.bits] at h; omega
theorem bd_i64 {n : Int} (h : (Lit.int .i64 n).wf = true) : -9223372036854775808 ≤ n ∧ n < 9223372036854775808 := by
  simp [Lit.wf, IntKind.min, IntKind.max, IntKind.signed, IntKind.bits] at h; omega

/-- How far the low bits are ahead of the near number's, going round. -/
def dd (x low : Int) : Int := ((low - x % 4294967296) % 4294967296 + 2147483648) % 4294967296 - 2147483648

def W (x d : Int) : Int :=
  if d < 0 ∧ -d > x then x + d + 4294967296
  else if d = -2147483648 ∧ x + 2147483648 < 18446744073709551616 then x + 2147483648
  else if d > 0 ∧ x + d ≥ 18446744073709551616 then x + d - 4294967296
  else x + d

theorem diff_is (a b : Int) : serial_Diff.f a b = some (((a - b) % 4294967296 + 2147483648) % 4294967296 - 2147483648) := by
  unfold serial_Diff.f wrap64 wrap32
  congr 1
  omega

theorem dd_bounds (x low : Int) : -2147483648 ≤ dd x low ∧ dd x low < 2147483648 := by unfold dd; omega

theorem j1_is (k : Nat) (x d : Int) (b : Bool) (h0 : 0 ≤ x) (h1 : x < 18446744073709551616) (b1 : -2147483648 ≤ d) (b2 : d < 2147483648) (hb : b = true ↔ (d = -2147483648 ∧ x + 2147483648 < 18446744073709551616)) (hn : ¬ (d < 0 ∧ -d > x)) :
    serial_Wide.j1 (k + 1) x d b = some (W x d) := by
  simp only [serial_Wide.j1, IntKind.wrap_u64, W, if_neg hn]
  by_cases hc : b = true
  · have hq := hb.1 hc
    rw [if_pos hc, if_pos hq]
    congr 1; omega
  · have hd : ¬ (d = -2147483648 ∧ x + 2147483648 < 18446744073709551616) := fun h => hc (hb.2 h)
    rw [if_neg hc, if_neg hd]
    split
    · split
      · rw [if_pos (by omega)]; congr 1; omega
      · rw [if_neg (by omega)]; congr 1; omega
    · rw [if_neg (by omega)]; congr 1; omega

theorem j0_is (k : Nat) (x d : Int) (b : Bool) (h0 : 0 ≤ x) (h1 : x < 18446744073709551616) (b1 : -2147483648 ≤ d) (b2 : d < 2147483648) (hb : b = true ↔ (d < 0 ∧ -d > x)) :
    serial_Wide.j0 (k + 2) x d b = some (W x d) := by
  simp only [serial_Wide.j0, IntKind.wrap_u64]
  by_cases hc : b = true
  · rw [if_pos hc]; simp only [W, if_pos (hb.1 hc)]
    congr 1; unfold wrap64; have := hb.1 hc; omega
  · have hd := fun h => hc (hb.2 h)
    rw [if_neg hc]
    split
    · rename_i he
      refine j1_is k x d _ h0 h1 b1 b2 ?_ hd
      rw [decide_eq_true_iff]; omega
    · rename_i he
      refine j1_is k x d _ h0 h1 b1 b2 ?_ hd
      simp [he]

theorem wide_is (k : Nat) (x low : Int) (h0 : 0 ≤ x) (h1 : x < 18446744073709551616) : serial_Wide.f (k + 2) x low = some (W x (dd x low)) := by
  obtain ⟨b1, b2⟩ := dd_bounds x low
  have hd : dd x low = ((low - x % 4294967296) % 4294967296 + 2147483648) % 4294967296 - 2147483648 := rfl
  unfold serial_Wide.f
  rw [diff_is, ← hd, Option.bind_some]
  generalize dd x low = d at *
  split
  · refine j0_is k x d _ h0 h1 b1 b2 ?_
    rw [decide_eq_true_iff, IntKind.wrap_u64]; unfold wrap64; omega
  · refine j0_is k x d _ h0 h1 b1 b2 ?_
    simp; omega

/-! The reference. -/
def dist (a b : Int) : Int := if a > b then a - b else b - a

theorem far_is (a b : Int) (a0 : 0 ≤ a) (a1 : a < 18446744073709551616) (b0 : 0 ≤ b) (b1 : b < 18446744073709551616) : broughamref04_far.f a b = some (dist a b) := by
  unfold broughamref04_far.f dist
  simp only [IntKind.wrap_u64]
  split <;> (congr 1; omega)

def better (x best near : Int) : Int := if dist x near < dist best near ∨ (dist x near = dist best near ∧ x > best) then x else best

theorem j2_is (k : Nat) (near low high best i h : Int) (n0 : 0 ≤ near) (n1 : near < 18446744073709551616) (l0 : 0 ≤ low) (l1 : low < 4294967296) (t0 : 0 ≤ best) (t1 : best < 18446744073709551616)
    (g0 : 0 ≤ h) (g1 : h < 4294967296) (i0 : 0 ≤ i) (i1 : i < 2) :
    broughamref04_Wide.j2 (k + 1) near low high best i h false = broughamref04_Wide.l0 k near low high (better (h * 4294967296 + low) best near) (i + 1) := by
  have e : IntKind.u64.wrap (IntKind.u64.wrap (h * 4294967296) + IntKind.u64.wrap low) = h * 4294967296 + low := by simp only [IntKind.wrap_u64]; omega
  have ei : wrap64 (i + 1) = i + 1 := by unfold wrap64; omega
  simp only [broughamref04_Wide.j2]
  rw [if_neg (by decide), e, ei, far_is _ _ (by omega) (by omega) n0 n1, far_is _ _ t0 t1 n0 n1]
  simp only [Option.bind_some]
  unfold better
  by_cases c1 : dist (h * 4294967296 + low) near < dist best near
  · rw [if_pos c1, if_pos (.inl c1)]
  · rw [if_neg c1]
    by_cases c2 : dist (h * 4294967296 + low) near = dist best near
    · rw [if_pos c2]
      by_cases c3 : h * 4294967296 + low > best
      · rw [if_pos c3, if_pos (.inr ⟨c2, c3⟩)]
      · rw [if_neg c3, if_neg (by omega)]
    · rw [if_neg c2, if_neg (by omega)]

theorem refwide_is (k : Nat) (x low : Int) (h0 : 0 ≤ x) (h1 : x < 18446744073709551616) (l0 : 0 ≤ low) (l1 : low < 4294967296) :
    broughamref04_Wide.f (k + 7) x low = some (W x (dd x low)) := by
  unfold broughamref04_Wide.f
  have e1 : IntKind.u64.wrap (Int.tdiv x 4294967296) = x / 4294967296 := by
    rw [Int.tdiv_eq_ediv_of_nonneg h0, IntKind.wrap_u64]; omega
  have e2 : IntKind.u64.wrap (IntKind.u64.wrap (x / 4294967296 * 4294967296) + IntKind.u64.wrap low) = x / 4294967296 * 4294967296 + low := by simp only [IntKind.wrap_u64]; omega
  rw [e1, e2]
  have hx : x = x / 4294967296 * 4294967296 + x % 4294967296 := by omega
  have hd : dd x low = ((low - x % 4294967296) % 4294967296 + 2147483648) % 4294967296 - 2147483648 := rfl
  have r0 : 0 ≤ x % 4294967296 := by omega
  have r1 : x % 4294967296 < 4294967296 := by omega
  have q0 : 0 ≤ x / 4294967296 := by omega
  have q1 : x / 4294967296 < 4294967296 := by omega
  have up : IntKind.u64.wrap (x / 4294967296 + 1) = x / 4294967296 + 1 := by rw [IntKind.wrap_u64]; omega
  have w1 : wrap64 (0 + 1) = 1 := by unfold wrap64; decide
  have w2 : wrap64 (1 + 1) = 2 := by unfold wrap64; decide
  generalize dd x low = d at *
  generalize x / 4294967296 = q at *
  generalize x % 4294967296 = r at *
  subst hx
  -- the first round: one above
  have j2t : ∀ m best i h, broughamref04_Wide.j2 (m + 1) (q * 4294967296 + r) low q best i h true = broughamref04_Wide.l0 m (q * 4294967296 + r) low q best (wrap64 (i + 1)) := by
    intro m best i h; simp only [broughamref04_Wide.j2]; rw [if_pos trivial]
  have s1 : broughamref04_Wide.l0 (k + 7) (q * 4294967296 + r) low q (q * 4294967296 + low) 0 = broughamref04_Wide.l0 (k + 4) (q * 4294967296 + r) low q (if q = 4294967295 then q * 4294967296 + low else better ((q + 1) * 4294967296 + low) (q * 4294967296 + low) (q * 4294967296 + r)) 1 := by
    conv => lhs; simp only [broughamref04_Wide.l0]
    rw [if_pos (by decide), if_neg (by decide), up]
    simp only [broughamref04_Wide.j1]
    rw [if_pos trivial]
    by_cases c : q = 4294967295
    · rw [if_pos c, if_pos c, j2t, w1]
    · rw [if_neg c, if_neg c, if_neg (by decide)]
      rw [j2_is (k + 4) _ low q _ 0 (q + 1) h0 h1 l0 l1 (by omega) (by omega) (by omega) (by omega) (by omega) (by omega)]
      rfl
  rw [s1]
  have hb : ∃ best, best = (if q = 4294967295 then q * 4294967296 + low else better ((q + 1) * 4294967296 + low) (q * 4294967296 + low) (q * 4294967296 + r)) := ⟨_, rfl⟩
  obtain ⟨best, hb⟩ := hb
  rw [← hb]
  have t0 : 0 ≤ best ∧ best < 18446744073709551616 := by
    rw [hb]; unfold better
    split
    · omega
    · split <;> omega
  have s2 : broughamref04_Wide.l0 (k + 4) (q * 4294967296 + r) low q best 1 = some (if q = 0 then best else better ((q - 1) * 4294967296 + low) best (q * 4294967296 + r)) := by
    have last : ∀ m y, broughamref04_Wide.l0 (m + 1) (q * 4294967296 + r) low q y 2 = some y := by
      intro m y; simp only [broughamref04_Wide.l0]; rw [if_neg (by decide)]
    simp only [broughamref04_Wide.l0]
    rw [if_pos (by decide), if_pos trivial]
    simp only [broughamref04_Wide.j1]
    rw [if_neg (by decide), if_pos trivial]
    by_cases c : q = 0
    · subst c
      have cb : ((0 : Int) == 0) = true := by decide
      rw [cb, j2t, w2, if_pos rfl]
      exact last _ _
    · have dn : IntKind.u64.wrap (q - 1) = q - 1 := by rw [IntKind.wrap_u64]; omega
      have cb : (q == 0) = false := by simpa using c
      rw [if_neg c, dn, cb]
      rw [j2_is (k + 1) _ low q _ 1 (q - 1) h0 h1 l0 l1 t0.1 t0.2 (by omega) (by omega) (by omega) (by omega)]
      exact last _ _
  rw [s2, hb]
  congr 1
  have hd' : d = low - r ∨ d = low - r + 4294967296 ∨ d = low - r - 4294967296 := by omega
  have hd1 : -2147483648 ≤ d := by omega
  have hd2 : d < 2147483648 := by omega
  clear hb s1 s2 t0 e1 e2 w1 w2 up hd
  unfold W better dist
  by_cases c1 : q = 4294967295
  · by_cases c2 : q = 0
    · omega
    · simp only [if_pos c1, if_neg c2]
      subst c1
      repeat' split
      all_goals omega
  · by_cases c2 : q = 0
    · simp only [if_neg c1, if_pos c2]
      subst c2
      repeat' split
      all_goals omega
    · simp only [if_neg c1, if_neg c2]
      repeat' split
      all_goals omega

theorem alive_is (k : Nat) : broughamlaw04_alive.f (k + 2) = some true := by
  unfold broughamlaw04_alive.f
  rw [wide_is k 4294967296 4294967295 (by decide) (by decide)]
  unfold serial_Max.f serial_Between.f serial_Less.f wrap32
  decide

end SerialWide

theorem SerialWide : broughamlaw04_SerialWide.Pure := by
  intro x low wx wl
  obtain ⟨hx0, hx1⟩ := SerialWide.bd_u64 wx
  obtain ⟨hl0, hl1⟩ := SerialWide.bd_u32 wl
  refine ⟨7, ?_⟩
  unfold broughamlaw04_SerialWide.f
  rw [SerialWide.wide_is 5 x low hx0 hx1, SerialWide.refwide_is 0 x low hx0 hx1 hl0 hl1, SerialWide.alive_is 5]
  simp only [Option.bind_some, if_true]
  rw [if_pos]
  unfold SerialWide.W SerialWide.dd
  repeat' split
  all_goals omega

end Go.Proofs.Ytjmebloeodcoaaa.Pure
