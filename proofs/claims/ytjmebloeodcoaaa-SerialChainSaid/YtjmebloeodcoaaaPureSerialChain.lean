/- SerialChain: numbers of 32 bits that go on by steps, less than half the way round in all, stand in their order. Conditions: none. -/
import Derived.Test.YtjmebloeodcoaaaPSerialChainx2
namespace Go.Proofs.Ytjmebloeodcoaaa.Pure
open Go.RowKit Go.Proofs.Ytjmebloeodcoaaa.PSerialChain Go.Proofs.YtjmebloeodcoaaaW.PrintWords Go.Proofs.YtjmebloeodcoaaaW.PrintLast

namespace SerialChain

theorem bd_u64 {n : Int} (h : (Lit.int .u64 n).wf = true) : 0 ≤ n ∧ n < 18446744073709551616 := by
  simp [Lit.wf, IntKind.min, IntKind.max, IntKind.signed, IntKind.bits] at h; omega
theorem bd_u32 {n : Int} (h : (Lit.int .u32 n).wf = true) : 0 ≤ n ∧ n < 4294967296 := by
  simp [Lit.wf, IntKind.min, IntKind.max, IntKind.signed, IntKind.bits] at h; omega
theorem bd_i64 {n : Int} (h : (Lit.int .i64 n).wf = true) : -9223372036854775808 ≤ n ∧ n < 9223372036854775808 := by
  simp [Lit.wf, IntKind.min, IntKind.max, IntKind.signed, IntKind.bits] at h; omega

/-- How far the low bits are ahead of the near number's, going round. -/
def dd (x low : Int) : Int := ((low - x % 4294967296) % 4294967296 + 2147483648) % 4294967296 - 2147483648

def W (x d : Int) : Int :=
  if d < 0 ∧ -d > x then x + d + 4294967296
  else if d = -2147483648 ∧ x + 2147483648 < 18446744073709551616 then x + 2147483648
  else if d > 0 ∧ x + d ≥ 18446744073709551616 then x + d - 4294967296
  else x + d

theorem diff_is (a b : Int) : serial_Diff.f a b = some (((a - b) % 4294967296 + 2147483648) % 4294967296 - 2147483648) := by
  unfold serial_Diff.f wrap64 wrap32
  congr 1
  omega

theorem dd_bounds (x low : Int) : -2147483648 ≤ dd x low ∧ dd x low < 2147483648 := by unfold dd; omega

theorem j1_is (k : Nat) (x d : Int) (b : Bool) (h0 : 0 ≤ x) (h1 : x < 18446744073709551616) (b1 : -2147483648 ≤ d) (b2 : d < 2147483648) (hb : b = true ↔ (d = -2147483648 ∧ x + 2147483648 < 18446744073709551616)) (hn : ¬ (d < 0 ∧ -d > x)) :
    serial_Wide.j1 (k + 1) x d b = some (W x d) := by
  simp only [serial_Wide.j1, IntKind.wrap_u64, W, if_neg hn]
  by_cases hc : b = true
  · have hq := hb.1 hc
    rw [if_pos hc, if_pos hq]
    congr 1; omega
  · have hd : ¬ (d = -2147483648 ∧ x + 2147483648 < 18446744073709551616) := fun h => hc (hb.2 h)
    rw [if_neg hc, if_neg hd]
    split
    · split
      · rw [if_pos (by omega)]; congr 1; omega
      · rw [if_neg (by omega)]; congr 1; omega
    · rw [if_neg (by omega)]; congr 1; omega

theorem j0_is (k : Nat) (x d : Int) (b : Bool) (h0 : 0 ≤ x) (h1 : x < 18446744073709551616) (b1 : -2147483648 ≤ d) (b2 : d < 2147483648) (hb : b = true ↔ (d < 0 ∧ -d > x)) :
    serial_Wide.j0 (k + 2) x d b = some (W x d) := by
  simp only [serial_Wide.j0, IntKind.wrap_u64]
  by_cases hc : b = true
  · rw [if_pos hc]; simp only [W, if_pos (hb.1 hc)]
    congr 1; unfold wrap64; have := hb.1 hc; omega
  · have hd := fun h => hc (hb.2 h)
    rw [if_neg hc]
    split
    · rename_i he
      refine j1_is k x d _ h0 h1 b1 b2 ?_ hd
      rw [decide_eq_true_iff]; omega
    · rename_i he
      refine j1_is k x d _ h0 h1 b1 b2 ?_ hd
      simp [he]

theorem wide_is (k : Nat) (x low : Int) (h0 : 0 ≤ x) (h1 : x < 18446744073709551616) : serial_Wide.f (k + 2) x low = some (W x (dd x low)) := by
  obtain ⟨b1, b2⟩ := dd_bounds x low
  have hd : dd x low = ((low - x % 4294967296) % 4294967296 + 2147483648) % 4294967296 - 2147483648 := rfl
  unfold serial_Wide.f
  rw [diff_is, ← hd, Option.bind_some]
  generalize dd x low = d at *
  split
  · refine j0_is k x d _ h0 h1 b1 b2 ?_
    rw [decide_eq_true_iff, IntKind.wrap_u64]; unfold wrap64; omega
  · refine j0_is k x d _ h0 h1 b1 b2 ?_
    simp; omega

theorem alive_is (k : Nat) : broughamlaw04_alive.f (k + 2) = some true := by
  unfold broughamlaw04_alive.f
  rw [wide_is k 4294967296 4294967295 (by decide) (by decide)]
  unfold serial_Max.f serial_Between.f serial_Less.f wrap32
  decide


theorem less_is (a b : Int) : serial_Less.f a b = some (decide (((a - b) % 4294967296 + 2147483648) % 4294967296 - 2147483648 < 0)) := by
  unfold serial_Less.f wrap32; rfl

/-- The steps' sum ahead of place i. -/
def S (l : List Int) : Nat → Int
  | 0 => 0
  | i + 1 => S l i + rd l i

def at_ (a : Int) (l : List Int) (i : Nat) : Int := (a + S l i) % 4294967296
def all (a : Int) (l : List Int) (i : Nat) : List Int := (List.range i).map fun j => at_ a l (j + 1)

def Good (l : List Int) (n : Nat) : Prop := ∀ j : Nat, j < n → 1 ≤ rd l j ∧ rd l j ≤ 16777216

theorem S_le (l : List Int) (n : Nat) (h : Good l n) : ∀ i, i ≤ n → (i : Int) ≤ S l i ∧ S l i ≤ (i : Int) * 16777216
  | 0, _ => by simp [S]
  | i + 1, hi => by
    obtain ⟨a, b⟩ := S_le l n h i (by omega)
    obtain ⟨c, d⟩ := h i (by omega)
    simp only [S]
    omega

theorem S_mono (l : List Int) (n : Nat) (h : Good l n) (i : Nat) : ∀ j, i ≤ j → j ≤ n → S l i ≤ S l j
  | 0, hi, _ => by
    have : i = 0 := by omega
    subst this; exact Int.le_refl _
  | j + 1, hi, hj => by
    by_cases e : i = j + 1
    · subst e; exact Int.le_refl _
    · have := S_mono l n h i j (by omega) (by omega)
      obtain ⟨c, d⟩ := h j (by omega)
      simp only [S]
      omega

theorem all_succ (a : Int) (l : List Int) (i : Nat) : all a l (i + 1) = all a l i ++ [at_ a l (i + 1)] := by
  simp [all, List.range_succ]

theorem all_length (a : Int) (l : List Int) (i : Nat) : (all a l i).length = i := by simp [all]

theorem rd_all (a : Int) (l : List Int) (n j : Nat) (h : j < n) : rd (all a l n) j = at_ a l (j + 1) := by
  simp [rd, all, h]

theorem l1_is (a : Int) (l : List Int) (n : Nat) (_a0 : 0 ≤ a) (_a1 : a < 4294967296) (hn : n ≤ 100) (hg : Good l n) (d : Nat) : ∀ (j k : Nat), j ≤ n → n - j = d → d + 3 ≤ k →
    broughamlaw04_SerialChain.l1 k a (at_ a l n) (all a l n) j = some true := by
  induction d with
  | zero =>
    intro j k hj hd hk
    obtain ⟨k, rfl⟩ : ∃ m, k = m + 3 := ⟨k - 3, by omega⟩
    simp only [broughamlaw04_SerialChain.l1]
    rw [if_neg (by rw [all_length]; omega), alive_is k]
    rfl
  | succ d ih =>
    intro j k hj hd hk
    obtain ⟨k, rfl⟩ : ∃ m, k = m + 1 := ⟨k - 1, by omega⟩
    have hlt : j < n := by omega
    have next := ih (j + 1) k (by omega) (by omega) (by omega)
    have ew : wrap64 ((j : Int) + 1) = ((j + 1 : Nat) : Int) := by unfold wrap64; omega
    obtain ⟨s1, s2⟩ := S_le l n hg (j + 1) (by omega)
    obtain ⟨t1, t2⟩ := S_le l n hg n (Nat.le_refl _)
    have st := S_mono l n hg (j + 1) n (by omega) (Nat.le_refl _)
    obtain ⟨g1, g2⟩ := hg j hlt
    have es : S l (j + 1) = S l j + rd l j := rfl
    simp only [broughamlaw04_SerialChain.l1]
    rw [if_pos (by rw [all_length]; omega), if_pos (by omega), rd_all a l n j hlt, ew, next]
    have hv : at_ a l (j + 1) = (a + S l (j + 1)) % 4294967296 := rfl
    have hT : at_ a l n = (a + S l n) % 4294967296 := rfl
    have q1 : serial_Less.f a (at_ a l (j + 1)) = some true := by
      rw [less_is, hv]; congr 1; rw [decide_eq_true_iff]; omega
    have q2 : serial_Between.f (at_ a l (j + 1)) a (at_ a l n) = some true := by
      unfold serial_Between.f
      rw [less_is, hv, hT, if_neg (by omega), if_pos (by omega), decide_eq_false (by omega)]; rfl
    have q3 : serial_Max.f (at_ a l (j + 1)) (at_ a l n) = some (at_ a l n) := by
      unfold serial_Max.f
      rw [less_is, Option.bind_some]
      split
      · rfl
      · rename_i c
        rw [decide_eq_true_iff, hv, hT] at c
        rw [hv, hT]; congr 1; omega
    rw [q1, q2, q3]
    simp only [Option.bind_some, if_true]
    by_cases hz : (j : Int) > 0
    · have ep : wrap64 ((j : Int) - 1) = ((j - 1 : Nat) : Int) := by unfold wrap64; omega
      have q4 : serial_Less.f (rd (all a l n) ((j - 1 : Nat) : Int)) (at_ a l (j + 1)) = some true := by
        rw [rd_all a l n (j - 1) (by omega), show j - 1 + 1 = j from by omega, less_is, hv]
        obtain ⟨u1, u2⟩ := S_le l n hg j (by omega)
        congr 1; rw [decide_eq_true_iff]; unfold at_; omega
      rw [if_pos hz, ep, if_pos (by omega), if_pos (by rw [all_length]; omega), q4]
      simp
    · rw [if_neg hz]

theorem l0_is (a : Int) (l : List Int) (a0 : 0 ≤ a) (a1 : a < 4294967296) (hn : l.length ≤ 100) (d : Nat) : ∀ (i k : Nat), i ≤ l.length → l.length - i = d → d + l.length + 5 ≤ k → Good l i →
    broughamlaw04_SerialChain.l0 k a l (at_ a l i) (all a l i) i = some true := by
  induction d with
  | zero =>
    intro i k hi hd hk hg
    obtain ⟨k, rfl⟩ : ∃ m, k = m + 1 := ⟨k - 1, by omega⟩
    have e : i = l.length := by omega
    subst e
    simp only [broughamlaw04_SerialChain.l0]
    rw [if_neg (by omega)]
    exact l1_is a l l.length a0 a1 hn hg l.length 0 k (by omega) (by omega) (by omega)
  | succ d ih =>
    intro i k hi hd hk hg
    obtain ⟨k, rfl⟩ : ∃ m, k = m + 1 := ⟨k - 1, by omega⟩
    have hlt : i < l.length := by omega
    have ew : wrap64 ((i : Int) + 1) = ((i + 1 : Nat) : Int) := by unfold wrap64; omega
    simp only [broughamlaw04_SerialChain.l0]
    rw [if_pos (by omega), if_pos (by omega)]
    by_cases c1 : rd l i < 1
    · rw [if_pos c1]
    rw [if_neg c1]
    by_cases c2 : rd l i > 16777216
    · rw [if_pos c2]
    rw [if_neg c2, if_pos (by rw [all_length]; omega), ew]
    have hg' : Good l (i + 1) := by
      intro j hj
      by_cases e : j = i
      · subst e; omega
      · exact hg j (by omega)
    have ea : (at_ a l i + rd l i) % 4294967296 = at_ a l (i + 1) := by
      unfold at_; simp only [S]; omega
    rw [ea, ← all_succ]
    exact ih (i + 1) k (by omega) (by omega) (by omega) hg'

end SerialChain

theorem SerialChain : broughamlaw04_SerialChain.Pure := by
  intro a l wa _ _ _
  obtain ⟨ha0, ha1⟩ := SerialChain.bd_u32 wa
  refine ⟨1000, ?_⟩
  unfold broughamlaw04_SerialChain.f
  by_cases h : (l.length : Int) > 100
  · rw [if_pos h]
  · rw [if_neg h]
    have e : SerialChain.at_ a l 0 = a := by simp only [SerialChain.at_, SerialChain.S]; omega
    have := SerialChain.l0_is a l ha0 ha1 (by omega) l.length 0 1000 (by omega) (by omega) (by omega) (fun j hj => by omega)
    rw [e] at this
    exact this

end Go.Proofs.Ytjmebloeodcoaaa.Pure
