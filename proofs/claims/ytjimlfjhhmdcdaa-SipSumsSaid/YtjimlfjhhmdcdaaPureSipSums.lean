/- SipSums: the sum of any bytes under any key, and the key made of them, as the document says: of the functions that text F03 prints. Conditions: none. -/
import Derived.Test.YtjimlfjhhmdcdaaPureSipParts
namespace Go.Proofs.YtjimlfjhhmdcdaaF03
open Go Zed
set_option linter.unusedVariables false
set_option linter.unusedSimpArgs false

/-- The number of bytes, the lowest first. -/
def le : List Int → Int
  | [] => 0
  | c :: r => c + 256 * le r
theorem le_snoc : ∀ (l : List Int) (c : Int), le (l ++ [c]) = le l + 256 ^ l.length * c
  | [], c => by simp [le]
  | d :: l, c => by
    rw [List.cons_append, le, le_snoc l c, le, List.length_cons, Int.pow_succ, Int.mul_add]
    rw [show 256 * (256 ^ l.length * c) = 256 ^ l.length * 256 * c by rw [Int.mul_comm ((256 : Int) ^ l.length) 256, Int.mul_assoc]]
    omega
theorem le_in : ∀ (l : List Int), Bytes l → 0 ≤ le l ∧ le l < 256 ^ l.length
  | [], h => by simp [le]
  | c :: l, h => by
    have := le_in l h.tail
    have := h.head
    rw [le, List.length_cons, Int.pow_succ]; omega
theorem pow256 (s : Nat) : (2 : Int) ^ (8 * s) = 256 ^ s := by rw [Int.pow_mul]; rfl
theorem pow_le {a b : Nat} (h : a ≤ b) : (256 : Int) ^ a ≤ 256 ^ b := by
  have := Nat.pow_le_pow_right (n := 256) (by decide) h
  have := Int.ofNat_le.2 this
  rw [Int.natCast_pow, Int.natCast_pow] at this
  exact this
theorem p8 : (256 : Int) ^ 8 = 18446744073709551616 := by decide
theorem p7 : (256 : Int) ^ 7 = 72057594037927936 := by decide

/-- A byte comes to those of its word. -/
theorem orb_is (l : List Int) (c x : Int) (hl : l.length ≤ 7) (hb : Bytes l) (hc : 0 ≤ c ∧ c < 9223372036854775807) (hm : c % 8 = l.length) (hx : 0 ≤ x ∧ x < 256) : orb (le l) c x = le (l ++ [x]) := by
  have h1 := le_in l hb
  have h2 := pow_le hl
  unfold orb
  rw [tmod_e hc.1, hm, i64_id (by omega) (by omega), u64_id (show 0 ≤ x by omega) (by omega)]
  have e2 : min (8 * (l.length : Int)).toNat (IntKind.bits .u64) = 8 * l.length := by simp [IntKind.bits]; omega
  rw [e2, pow256, le_snoc]
  have hp : 0 < (256 : Int) ^ l.length := Int.pow_pos (by decide)
  have hlt : x * 256 ^ l.length < 18446744073709551616 := by
    have a1 : x * 256 ^ l.length ≤ 255 * 256 ^ l.length := Int.mul_le_mul_of_nonneg_right (by omega) (by omega)
    rw [p7] at h2
    omega
  have hnn : 0 ≤ x * 256 ^ l.length := Int.mul_nonneg hx.1 (by omega)
  rw [u64_id hnn hlt]
  have := bits_join .u64 64 (by decide) wraps_u64 (8 * l.length) (x * 256 ^ l.length) (le l) hnn (by rw [pow256]; exact Int.mul_emod_left _ _) (by rw [show (2 : Int) ^ 64 = 18446744073709551616 by decide]; omega) h1.1 (by rw [pow256]; exact h1.2) (by rw [show (2 : Int) ^ 64 = 18446744073709551616 by decide]; rw [p7] at h2; omega)
  have hcomm : bits .or .u64 (le l) (x * 256 ^ l.length) = bits .or .u64 (x * 256 ^ l.length) (le l) := by
    show IntKind.u64.wrap (((BitVec.ofInt 64 _) ||| (BitVec.ofInt 64 _)).toNat : Int) = IntKind.u64.wrap (((BitVec.ofInt 64 _) ||| (BitVec.ofInt 64 _)).toNat : Int)
    rw [BitVec.or_comm]
  rw [hcomm, this, Int.mul_comm x]
  omega

/-- Bytes that do not fill a word. -/
theorem part : ∀ (r l : List Int) (v : V) (c : Int), Bytes l → Bytes r → l.length + r.length ≤ 7 → 0 ≤ c → c + r.length < 9223372036854775807 → c % 8 = l.length → r.foldl stp (v, le l, c) = (v, le (l ++ r), c + r.length)
  | [], l, v, c, hl, hr, hn, hc, hcb, hm => by simp
  | x :: r, l, v, c, hl, hr, hn, hc, hcb, hm => by
    simp only [List.length_cons] at hn hcb
    have e : stp (v, le l, c) x = (v, le (l ++ [x]), c + 1) := by
      unfold stp
      simp only
      have w : IntKind.wrap .i64 (c + 1) = c + 1 := i64_id (by omega) (by omega)
      rw [w, tmod_e (by omega), if_neg (by simp; omega), orb_is l c x (by omega) hl (by omega) hm hr.head]
    have h2 := part r (l ++ [x]) v (c + 1) (hl.append (Bytes.cons hr.head Bytes.nil)) hr.tail (by simp; omega) (by omega) (by omega) (by simp; omega)
    rw [List.foldl_cons, e, h2, List.append_assoc, List.singleton_append, List.length_cons]
    congr 2; omega
/-- A word's bytes. -/
theorem word (l : List Int) (v : V) (c : Int) (hb : Bytes l) (hl : l.length = 8) (hc : 0 ≤ c) (hcb : c + 8 < 9223372036854775807) (hm : c % 8 = 0) : l.foldl stp (v, 0, c) = (tk v (le l), 0, c + 8) := by
  have hd : l = l.take 7 ++ [l.getD 7 0] := by
    have := drop_cons (l := l) (i := 7) (by omega) 0
    rw [show l.drop (7 + 1) = [] from List.drop_eq_nil_of_le (by omega)] at this
    rw [← this, List.take_append_drop]
  have hx := hb.get 7
  have ht : (l.take 7).length = 7 := by simp; omega
  have h1 := part (l.take 7) [] v c Bytes.nil (hb.take 7) (by simp; omega) hc (by rw [ht]; omega) (by simpa using hm)
  rw [List.nil_append, ht] at h1
  have e0 : le [] = 0 := rfl
  rw [e0] at h1
  rw [hd, List.foldl_append, h1]
  show stp (v, le (l.take 7), c + ((7 : Nat) : Int)) (l.getD 7 0) = _
  unfold stp
  simp only
  have w : IntKind.wrap .i64 (c + ((7 : Nat) : Int) + 1) = c + 8 := by rw [i64_id (by omega) (by omega)]; omega
  rw [w, tmod_e (by omega), if_pos (by simp; omega), orb_is (l.take 7) (c + ((7 : Nat) : Int)) _ (by omega) (hb.take 7) (by omega) (by omega) hx]

theorem u64_lt {k : Nat} (hk : k ≤ 8) {m y : Int} (hm : 0 ≤ m ∧ m * 256 ^ k < 18446744073709551616) : m < 18446744073709551616 := by
  have : 1 ≤ (256 : Int) ^ k := Int.pow_pos (by decide)
  have := Int.mul_le_mul_of_nonneg_left this hm.1
  omega

/-- The reference's word. -/
theorem refWord (b : List Int) (at_ : Nat) (hb : Bytes b) (hbl : b.length ≤ 100000) (v : V) : ∀ (k : Nat) (m : Int), k ≤ 8 → at_ + k ≤ b.length → 0 ≤ m → (m + 1) * 256 ^ k ≤ 18446744073709551616 →
    Ev (fun n => f57_broughamref03_Sum_L6 n b at_ m ((k : Int) - 1) v.1 v.2.1 v.2.2.1 v.2.2.2) (fun r => r = (b, (at_ : Int), m * 256 ^ k + le ((b.drop at_).take k), v.1, v.2.1, v.2.2.1, v.2.2.2))
  | 0, m, hk, ha, hm, hmb => by
    apply Ev.succ
    simp only [f57_broughamref03_Sum_L6]
    exact Ev.neg (by simp) (Ev.some (by simp [le]))
  | k + 1, m, hk, ha, hm, hmb => by
    apply Ev.succ
    simp only [f57_broughamref03_Sum_L6]
    have e : ((k + 1 : Nat) : Int) - 1 = k := by omega
    have hc := hb.get (at_ + k)
    have hp : 1 ≤ (256 : Int) ^ k := Int.pow_pos (by decide)
    have hmb' : (m * 256 + 256) * 256 ^ k ≤ 18446744073709551616 := by
      rw [Int.pow_succ, ← Int.mul_assoc, Int.mul_right_comm, ] at hmb
      rw [show m * 256 + 256 = (m + 1) * 256 by omega]; exact hmb
    have hsm : m * 256 + 256 ≤ 18446744073709551616 := by
      have := Int.mul_le_mul_of_nonneg_left hp (show 0 ≤ m * 256 + 256 by omega)
      omega
    rw [e, i64_id (show -9223372036854775808 ≤ (at_ : Int) + k by omega) (by omega), i64_id (show -9223372036854775808 ≤ (k : Int) - 1 by omega) (by omega), show ((at_ : Int) + k).toNat = at_ + k by omega]
    have hw : IntKind.wrap .u64 (IntKind.wrap .u64 (m * 256) + IntKind.wrap .u64 (b.getD (at_ + k) 0)) = m * 256 + b.getD (at_ + k) 0 := by
      rw [u64_id (show 0 ≤ m * 256 by omega) (by omega), u64_id hc.1 (by omega), u64_id (by omega) (by omega)]
    rw [hw]
    refine Ev.pos (by simp) (Ev.guard (by omega) ((refWord b at_ hb hbl v k (m * 256 + b.getD (at_ + k) 0) (by omega) (by omega) (by omega) ?_).mono ?_))
    · have := Int.mul_le_mul_of_nonneg_right (show m * 256 + b.getD (at_ + k) 0 + 1 ≤ m * 256 + 256 by omega) (show 0 ≤ (256 : Int) ^ k by omega)
      omega
    · rintro _ rfl
      have ht : (b.drop at_).take (k + 1) = (b.drop at_).take k ++ [b.getD (at_ + k) 0] := by
        rw [List.take_succ_eq_append_getElem (by simp; omega)]
        simp [List.getD, List.getElem?_eq_getElem (show at_ + k < b.length by omega)]
      have hlen : ((b.drop at_).take k).length = k := by simp; omega
      rw [ht, le_snoc, hlen, Int.add_mul, Int.pow_succ, Int.mul_comm (b.getD (at_ + k) 0) (256 ^ k), Int.mul_assoc, Int.mul_comm (256 : Int) (256 ^ k)]
      have : ∀ a b c : Int, a + b + c = a + (c + b) := by intros; omega
      rw [this]

theorem refBlocks (b : List Int) (hb : Bytes b) (hbl : b.length ≤ 100000) : ∀ (k at_ : Nat) (v : V), b.length = at_ + 8 * k + b.length % 8 → at_ % 8 = 0 →
    Ev (fun n => f57_broughamref03_Sum_L3 n b at_ v.1 v.2.1 v.2.2.1 v.2.2.2) (fun r => ∃ w : V, r = (b, ((at_ + 8 * k : Nat) : Int), w.1, w.2.1, w.2.2.1, w.2.2.2) ∧ (b.drop at_).foldl stp (v, 0, (at_ : Int)) = (b.drop (at_ + 8 * k)).foldl stp (w, 0, ((at_ + 8 * k : Nat) : Int)))
  | 0, at_, v, h, ha => by
    apply Ev.succ
    simp only [f57_broughamref03_Sum_L3]
    rw [i64_id (by omega) (by omega)]
    exact Ev.neg (by simp; omega) (Ev.some ⟨v, rfl, rfl⟩)
  | k + 1, at_, v, h, ha => by
    apply Ev.succ
    simp only [f57_broughamref03_Sum_L3]
    rw [i64_id (by omega) (by omega)]
    have hw := refWord b at_ hb hbl v 8 0 (by omega) (by omega) (by omega) (by rw [p8]; omega)
    rw [show ((8 : Nat) : Int) - 1 = 7 by decide] at hw
    refine Ev.pos (by simp; omega) (Ev.bind hw ?_)
    rintro _ rfl
    dsimp only
    rw [refTake_is, Int.zero_mul, Int.zero_add]
    simp only [Option.bind_some]
    rw [i64_id (by omega) (by omega), show (at_ : Int) + 8 = ((at_ + 8 : Nat) : Int) by omega]
    refine (refBlocks b hb hbl k (at_ + 8) (tk v (le ((b.drop at_).take 8))) (by omega) (by omega)).mono ?_
    rintro _ ⟨w, rfl, h2⟩
    refine ⟨w, by rw [show at_ + 8 + 8 * k = at_ + 8 * (k + 1) by omega], ?_⟩
    rw [show at_ + 8 + 8 * k = at_ + 8 * (k + 1) by omega] at h2
    rw [← h2]
    have hs : b.drop at_ = (b.drop at_).take 8 ++ b.drop (at_ + 8) := by rw [← List.drop_drop, List.take_append_drop]
    rw [hs, List.foldl_append, word ((b.drop at_).take 8) v at_ ((hb.drop _).take _) (by simp; omega) (by omega) (by omega) (by omega)]
    have e1 : ((b.drop at_).take 8 ++ b.drop (at_ + 8)).take 8 = (b.drop at_).take 8 := by rw [← hs]
    rw [e1]
    rfl

/-- The reference's last word. -/
theorem refLast (b : List Int) (at_ : Nat) (hb : Bytes b) (hbl : b.length ≤ 100000) (v : V) (ha : at_ ≤ b.length) : ∀ (k : Nat) (m : Int), k ≤ 7 → 0 ≤ m → (m + 1) * 256 ^ k ≤ 18446744073709551616 →
    Ev (fun n => f57_broughamref03_Sum_L13 n b at_ m ((k : Int) - 1) v.1 v.2.1 v.2.2.1 v.2.2.2) (fun r => r = (m * 256 ^ k + le ((b.drop at_).take k), v.1, v.2.1, v.2.2.1, v.2.2.2))
  | 0, m, hk, hm, hmb => by
    apply Ev.succ
    simp only [f57_broughamref03_Sum_L13]
    exact Ev.neg (by simp) (Ev.some (by simp [le]))
  | k + 1, m, hk, hm, hmb => by
    apply Ev.succ
    simp only [f57_broughamref03_Sum_L13]
    have e : ((k + 1 : Nat) : Int) - 1 = k := by omega
    have hc := hb.get (at_ + k)
    have hp : 1 ≤ (256 : Int) ^ k := Int.pow_pos (by decide)
    have hmb' : (m * 256 + 256) * 256 ^ k ≤ 18446744073709551616 := by
      rw [Int.pow_succ, ← Int.mul_assoc, Int.mul_right_comm, ] at hmb
      rw [show m * 256 + 256 = (m + 1) * 256 by omega]; exact hmb
    have hsm : m * 256 + 256 ≤ 18446744073709551616 := by
      have := Int.mul_le_mul_of_nonneg_left hp (show 0 ≤ m * 256 + 256 by omega)
      omega
    rw [e, i64_id (show -9223372036854775808 ≤ (at_ : Int) + k by omega) (by omega), i64_id (show -9223372036854775808 ≤ (k : Int) - 1 by omega) (by omega), show ((at_ : Int) + k).toNat = at_ + k by omega]
    have hw : IntKind.wrap .u64 (IntKind.wrap .u64 (m * 256) + IntKind.wrap .u64 (b.getD (at_ + k) 0)) = m * 256 + b.getD (at_ + k) 0 := by
      rw [u64_id (show 0 ≤ m * 256 by omega) (by omega), u64_id hc.1 (by omega), u64_id (by omega) (by omega)]
    have hw0 : IntKind.wrap .u64 (IntKind.wrap .u64 (m * 256) + 0) = m * 256 := by
      rw [u64_id (show 0 ≤ m * 256 by omega) (by omega), u64_id (by omega) (by omega)]; omega
    rw [hw, hw0]
    refine Ev.pos (by simp) (Ev.ite (fun h1 => Ev.guard (by simp at h1; omega) ((refLast b at_ hb hbl v ha k (m * 256 + b.getD (at_ + k) 0) (by omega) (by omega) ?_).mono ?_)) (fun h1 => (refLast b at_ hb hbl v ha k (m * 256) (by omega) (by omega) ?_).mono ?_))
    · have := Int.mul_le_mul_of_nonneg_right (show m * 256 + b.getD (at_ + k) 0 + 1 ≤ m * 256 + 256 by omega) (show 0 ≤ (256 : Int) ^ k by omega)
      omega
    · rintro _ rfl
      simp only [decide_eq_true_eq] at h1
      have ht : (b.drop at_).take (k + 1) = (b.drop at_).take k ++ [b.getD (at_ + k) 0] := by
        rw [List.take_succ_eq_append_getElem (by simp; omega)]
        simp [List.getD, List.getElem?_eq_getElem (show at_ + k < b.length by omega)]
      have hlen : ((b.drop at_).take k).length = k := by simp; omega
      rw [ht, le_snoc, hlen, Int.add_mul, Int.pow_succ, Int.mul_comm (b.getD (at_ + k) 0) (256 ^ k), Int.mul_assoc, Int.mul_comm (256 : Int) (256 ^ k)]
      have : ∀ a b c : Int, a + b + c = a + (c + b) := by intros; omega
      rw [this]
    · have := Int.mul_le_mul_of_nonneg_right (show m * 256 + 1 ≤ m * 256 + 256 by omega) (show 0 ≤ (256 : Int) ^ k by omega)
      omega
    · rintro _ rfl
      simp only [decide_eq_true_eq] at h1
      have ht : (b.drop at_).take (k + 1) = (b.drop at_).take k := by
        rw [List.take_of_length_le (by simp; omega), List.take_of_length_le (by simp; omega)]
      rw [ht, Int.pow_succ, Int.mul_assoc, Int.mul_comm (256 : Int) (256 ^ k)]

theorem refSum_is (a c : Int) (b : List Int) (hb : Bytes b) (hbl : b.length ≤ 100000) : Ev (fun n => f57_broughamref03_Sum n a c b) (fun r => r = sum a c b) := by
  simp only [f57_broughamref03_Sum]
  refine Ev.bind (refBlocks b hb hbl (b.length / 8) 0 (s0 a c).1 (by omega) (by omega)) ?_
  rintro _ ⟨w, rfl, hfold⟩
  dsimp only
  rw [Nat.zero_add]
  rw [Nat.zero_add, List.drop_zero] at hfold
  have htl : (b.drop (8 * (b.length / 8))).length = b.length % 8 := by simp; omega
  have hpart := part (b.drop (8 * (b.length / 8))) [] w ((8 * (b.length / 8) : Nat) : Int) Bytes.nil (hb.drop _) (by rw [htl]; simp; omega) (by omega) (by rw [htl]; omega) (by simp)
  rw [show le [] = 0 from rfl, List.nil_append, htl] at hpart
  have hlen : (b.drop (8 * (b.length / 8))).take 7 = b.drop (8 * (b.length / 8)) := List.take_of_length_le (by omega)
  have hl := refLast b (8 * (b.length / 8)) hb hbl w (by omega) 7 ((b.length : Int) % 256) (by omega) (by omega) (by rw [p7]; omega)
  rw [show ((7 : Nat) : Int) - 1 = 6 by decide, hlen, p7] at hl
  rw [tmod_e (by omega), u64_id (show 0 ≤ (b.length : Int) % 256 by omega) (by omega)]
  refine Ev.bind hl ?_
  rintro _ rfl
  dsimp only
  refine Ev.bind (P := fun r => r = tk w ((b.length : Int) % 256 * 72057594037927936 + le (b.drop (8 * (b.length / 8))))) (Ev.of (refTake_is w _) rfl) ?_
  intro v hv
  have hsum : sum a c b = fin (w, le (b.drop (8 * (b.length / 8))), ((8 * (b.length / 8) : Nat) : Int) + ((b.length % 8 : Nat) : Int)) := by
    unfold sum
    have hs : s0 a c = ((s0 a c).1, 0, ((0 : Nat) : Int)) := by unfold s0; rfl
    rw [hs, hfold, hpart]
  have hle := le_in _ (hb.drop (8 * (b.length / 8)))
  rw [htl] at hle
  have hle7 : le (b.drop (8 * (b.length / 8))) < 72057594037927936 := by
    have := pow_le (show b.length % 8 ≤ 7 by omega); rw [p7] at this; omega
  have hword : bits .or .u64 (le (b.drop (8 * (b.length / 8)))) (IntKind.wrap .u64 ((IntKind.wrap .u64 (IntKind.wrap .u8 (((8 * (b.length / 8) : Nat) : Int) + ((b.length % 8 : Nat) : Int)))) * 2 ^ 56)) = (b.length : Int) % 256 * 72057594037927936 + le (b.drop (8 * (b.length / 8))) := by
    have e1 : IntKind.wrap .u8 (((8 * (b.length / 8) : Nat) : Int) + ((b.length % 8 : Nat) : Int)) = (b.length : Int) % 256 := by rw [w_u8]; omega
    rw [e1, u64_id (show 0 ≤ (b.length : Int) % 256 by omega) (by omega), show (2 : Int) ^ 56 = 72057594037927936 by decide, u64_id (show 0 ≤ (b.length : Int) % 256 * 72057594037927936 by omega) (by omega)]
    have := bits_join .u64 64 (by decide) wraps_u64 56 ((b.length : Int) % 256 * 72057594037927936) (le (b.drop (8 * (b.length / 8)))) (by omega) (by rw [show (2 : Int) ^ 56 = 72057594037927936 by decide]; omega) (by rw [show (2 : Int) ^ 64 = 18446744073709551616 by decide]; omega) hle.1 (by rw [show (2 : Int) ^ 56 = 72057594037927936 by decide]; omega) (by rw [show (2 : Int) ^ 64 = 18446744073709551616 by decide]; omega)
    have hcomm : ∀ x y : Int, bits .or .u64 x y = bits .or .u64 y x := fun x y => by
      show IntKind.u64.wrap (((BitVec.ofInt 64 _) ||| (BitVec.ofInt 64 _)).toNat : Int) = IntKind.u64.wrap (((BitVec.ofInt 64 _) ||| (BitVec.ofInt 64 _)).toNat : Int)
      rw [BitVec.or_comm]
    rw [hcomm, this]
  rw [hsum]
  unfold fin
  dsimp only
  rw [hword, ← hv]
  refine Ev.bind (P := fun r => r = rnd (v.1, v.2.1, bits .xor .u64 v.2.2.1 255, v.2.2.2)) (Ev.of (refRound_is (v.1, v.2.1, bits .xor .u64 v.2.2.1 255, v.2.2.2)) rfl) ?_
  intro v1 h1
  refine Ev.bind (P := fun r => r = rnd v1) (Ev.of (refRound_is v1) rfl) ?_
  intro v2 h2
  refine Ev.bind (P := fun r => r = rnd v2) (Ev.of (refRound_is v2) rfl) ?_
  intro v3 h3
  refine Ev.bind (P := fun r => r = rnd v3) (Ev.of (refRound_is v3) rfl) ?_
  intro v4 h4
  rw [← h1, ← h2, ← h3, ← h4]
  exact Ev.some rfl

theorem refPair_is (a c : Int) (b : List Int) (hb : Bytes b) (hbl : b.length ≤ 90000) : Ev (fun n => f59_broughamref03_Pair n a c b) (fun r => r = (sum a c (1 :: b), sum a c (2 :: b))) := by
  simp only [f59_broughamref03_Pair]
  refine Ev.guard (by simp [maxLen]; omega) (Ev.bind (refSum_is a c _ (Bytes.cons (by decide) hb) (by simp; omega)) ?_)
  rintro _ rfl
  refine Ev.guard (by simp [maxLen]; omega) (Ev.bind (refSum_is a c _ (Bytes.cons (by decide) hb) (by simp; omega)) ?_)
  rintro _ rfl
  exact Ev.some rfl

theorem SipSums (k : Int × Int) (h0 : K.ok (.pair (.int .u64) (.int .u64)) k) (b : List Int) (h1 : K.ok (.slice (.int .u8)) b) : ∃ n, f10_broughamlaw03_SipSums n k.1 k.2 b = some true := by
  have hb := ok_bytes h1
  obtain ⟨a, c⟩ := k
  dsimp only
  apply Ev.true
  simp only [f10_broughamlaw03_SipSums]
  refine Ev.ite (fun _ => Ev.some rfl) fun a1 => ?_
  simp only [gt_iff_lt, decide_eq_true_eq] at a1
  have hp2 : ∀ x ∈ [b], x.length ≤ 20000 := fun x hx => by simp at hx; subst hx; omega
  refine Ev.bind (sum_is a c [b] (by simp) hp2) ?_
  rintro _ rfl
  refine Ev.bind (refSum_is a c b hb (by omega)) ?_
  rintro _ rfl
  refine Ev.pos (by simp) (Ev.bind (pair_is a c [b] (by simp) hp2) ?_)
  rintro _ rfl
  refine Ev.bind (refPair_is a c b hb (by omega)) ?_
  rintro _ rfl
  exact Ev.pos (by simp) (Ev.bind alive_is (fun r hr => Ev.some hr))
end Go.Proofs.YtjimlfjhhmdcdaaF03
