/- ONES: how many bits of 64 are set, by the sums that text F41 prints. Conditions: none. -/
import Derived.Test.YtdcnjkjgmagjmaaPureReplay
namespace Go.Proofs.YtdcnjkjgmagjmaaF41
open Go Zed
set_option linter.unusedVariables false
set_option linter.unusedSimpArgs false

/-- How many of the lowest bits are set. -/
def ones : Nat → Nat → Nat
  | 0, _ => 0
  | k + 1, n => ones k n + (n.testBit k).toNat
/-- Bytes, the lowest ahead, as a number. -/
def val : List Nat → Nat
  | [] => 0
  | b :: l => b + 256 * val l
theorem val_lt : ∀ (l : List Nat), (∀ b ∈ l, b < 256) → val l < 256 ^ l.length
  | [], _ => by simp [val]
  | b :: l, h => by
    have h1 := val_lt l (fun x hx => h x (by simp [hx]))
    have h2 := h b (by simp)
    rw [val, List.length_cons, Nat.pow_succ]
    omega
def rep (m : Nat) : Nat → Nat
  | 0 => 0
  | k + 1 => m + 256 * rep m k
theorem and_byte (x m : Nat) : x &&& m = (x % 256 &&& m % 256) + 256 * (x / 256 &&& m / 256) := by
  have h1 : (x &&& m) % 2 ^ 8 = x % 2 ^ 8 &&& m % 2 ^ 8 := Nat.and_mod_two_pow
  have h2 : (x &&& m) / 2 ^ 8 = x / 2 ^ 8 &&& m / 2 ^ 8 := Nat.and_div_two_pow
  have e : (2 : Nat) ^ 8 = 256 := by decide
  rw [e] at h1 h2
  rw [← h1, ← h2]
  omega
theorem and_cons (c u m r : Nat) (hc : c < 256) (hm : m < 256) : (c + 256 * u) &&& (m + 256 * r) = (c &&& m) + 256 * (u &&& r) := by
  rw [and_byte, show (c + 256 * u) % 256 = c by omega, show (m + 256 * r) % 256 = m by omega, show (c + 256 * u) / 256 = u by omega, show (m + 256 * r) / 256 = r by omega]
theorem f1 : ∀ b : Fin 256, ∀ e : Fin 2, (b.val / 2 + 128 * e.val) &&& 85 = (b.val / 2 &&& 85) := by decide +kernel
theorem f2 : ∀ b : Fin 256, ∀ e : Fin 4, (b.val / 4 + 64 * e.val) &&& 51 = (b.val / 4 &&& 51) := by decide +kernel
theorem f3 : ∀ c : Fin 16, ∀ d : Fin 16, ∀ e : Fin 16, c.val ≤ 4 → d.val ≤ 4 → e.val ≤ 4 → (c.val + 16 * e.val + (d.val + 16 * c.val)) &&& 15 = (c.val + (d.val + 16 * c.val)) &&& 15 := by decide +kernel
def s1 (b : Nat) : Nat := (b / 2 &&& 85) + (b &&& 85)
def s2 (b : Nat) : Nat := (b / 4 &&& 51) + (b &&& 51)
def s3 (b : Nat) : Nat := (b / 16 + b) &&& 15
theorem step1 : ∀ (l : List Nat), (∀ b ∈ l, b < 256) → (val l / 2 &&& rep 85 l.length) + (val l &&& rep 85 l.length) = val (l.map s1)
  | [], _ => by simp [val, rep]
  | b :: l, h => by
    have ih := step1 l (fun x hx => h x (by simp [hx]))
    have hb := h b (by simp)
    rw [val, List.length_cons, rep, List.map_cons, val, ← ih]
    generalize val l = v
    generalize rep 85 l.length = r
    have e1 : (b + 256 * v) / 2 = (b / 2 + 128 * (v % 2)) + 256 * (v / 2) := by omega
    rw [e1, and_cons _ _ _ _ (by omega) (by decide), and_cons _ _ _ _ hb (by decide)]
    have := f1 ⟨b, hb⟩ ⟨v % 2, by omega⟩
    simp only at this
    rw [this]
    unfold s1; omega
theorem step2 : ∀ (l : List Nat), (∀ b ∈ l, b < 256) → (val l / 4 &&& rep 51 l.length) + (val l &&& rep 51 l.length) = val (l.map s2)
  | [], _ => by simp [val, rep]
  | b :: l, h => by
    have ih := step2 l (fun x hx => h x (by simp [hx]))
    have hb := h b (by simp)
    rw [val, List.length_cons, rep, List.map_cons, val, ← ih]
    generalize val l = v
    generalize rep 51 l.length = r
    have e1 : (b + 256 * v) / 4 = (b / 4 + 64 * (v % 4)) + 256 * (v / 4) := by omega
    rw [e1, and_cons _ _ _ _ (by omega) (by decide), and_cons _ _ _ _ hb (by decide)]
    have := f2 ⟨b, hb⟩ ⟨v % 4, by omega⟩
    simp only at this
    rw [this]
    unfold s2; omega
def Low (b : Nat) : Prop := b / 16 ≤ 4 ∧ b % 16 ≤ 4
theorem val_mod16 : ∀ (l : List Nat), (∀ b ∈ l, Low b) → val l % 16 ≤ 4
  | [], _ => by simp [val]
  | b :: l, h => by have := h b (by simp); unfold Low at this; rw [val]; omega
theorem step3 : ∀ (l : List Nat), (∀ b ∈ l, Low b) → (val l / 16 + val l) &&& rep 15 l.length = val (l.map s3)
  | [], _ => by simp [val, rep]
  | b :: l, h => by
    have ih := step3 l (fun x hx => h x (by simp [hx]))
    have hb := h b (by simp)
    have hm := val_mod16 l (fun x hx => h x (by simp [hx]))
    unfold Low at hb
    rw [val, List.length_cons, rep, List.map_cons, val, ← ih]
    generalize val l = v at hm
    generalize rep 15 l.length = r
    have e1 : (b + 256 * v) / 16 + (b + 256 * v) = (b / 16 + 16 * (v % 16) + (b % 16 + 16 * (b / 16))) + 256 * (v / 16 + v) := by omega
    rw [e1, and_cons _ _ _ _ (by omega) (by decide)]
    have := f3 ⟨b / 16, by omega⟩ ⟨b % 16, by omega⟩ ⟨v % 16, by omega⟩ hb.1 hb.2 hm
    simp only at this
    rw [this]
    unfold s3
    have e2 : b / 16 + (b % 16 + 16 * (b / 16)) = b / 16 + b := by omega
    rw [e2]
theorem s1_lt : ∀ b : Fin 256, s1 b.val < 256 := by decide +kernel
theorem s2_low : ∀ b : Fin 256, s2 (s1 b.val) / 16 ≤ 4 ∧ s2 (s1 b.val) % 16 ≤ 4 := by decide +kernel
theorem s3_ones : ∀ b : Fin 256, s3 (s2 (s1 b.val)) = ones 8 b.val ∧ ones 8 b.val ≤ 8 := by decide +kernel
theorem ones_add (b y : Nat) (hb : b < 256) : ∀ k, ones (8 + k) (b + 256 * y) = ones 8 b + ones k y := by
  have tb : ∀ j, (b + 256 * y).testBit j = if j < 8 then b.testBit j else y.testBit (j - 8) := fun j => by
    have := Nat.testBit_two_pow_mul_add y (show b < 2 ^ 8 by simpa using hb) j
    rw [show (2 : Nat) ^ 8 = 256 by decide, Nat.add_comm] at this
    exact this
  intro k
  induction k with
  | zero =>
    simp only [Nat.add_zero, ones, tb]
    simp
  | succ k ih =>
    rw [← Nat.add_assoc, ones, ih, tb, if_neg (by omega), show 8 + k - 8 = k by omega]
    show ones 8 b + ones k y + _ = ones 8 b + (ones k y + (y.testBit k).toNat)
    omega
def bytes8 (a : Nat) : List Nat := [a % 256, a / 256 % 256, a / 65536 % 256, a / 16777216 % 256, a / 4294967296 % 256, a / 1099511627776 % 256, a / 281474976710656 % 256, a / 72057594037927936 % 256]
theorem val8 (a : Nat) (h : a < 18446744073709551616) : val (bytes8 a) = a := by
  simp only [bytes8, val]; omega
theorem bytes8_lt (a : Nat) : ∀ b ∈ bytes8 a, b < 256 := by
  intro b hb
  simp only [bytes8, List.mem_cons, List.not_mem_nil, or_false] at hb
  rcases hb with rfl | rfl | rfl | rfl | rfl | rfl | rfl | rfl <;> omega
theorem ones64 (l : List Nat) (h : ∀ b ∈ l, b < 256) : ones (8 * l.length) (val l) = (l.map (ones 8)).sum := by
  induction l with
  | nil => rfl
  | cons b l ih =>
    rw [List.length_cons, show 8 * (l.length + 1) = 8 + 8 * l.length by omega, val, ones_add b _ (h b (by simp)), ih (fun x hx => h x (by simp [hx]))]
    simp
set_option maxHeartbeats 2000000 in
theorem sum8 (p0 p1 p2 p3 p4 p5 p6 p7 z z1 z2 z3 : Nat) (h : p0 ≤ 8 ∧ p1 ≤ 8 ∧ p2 ≤ 8 ∧ p3 ≤ 8 ∧ p4 ≤ 8 ∧ p5 ≤ 8 ∧ p6 ≤ 8 ∧ p7 ≤ 8)
    (e : z = p0 + 256 * (p1 + 256 * (p2 + 256 * (p3 + 256 * (p4 + 256 * (p5 + 256 * (p6 + 256 * p7)))))))
    (e1 : z1 = z + z / 256) (e2 : z2 = z1 + z1 / 65536) (e3 : z3 = z2 + z2 / 4294967296) :
    z1 < 18446744073709551616 ∧ z2 < 18446744073709551616 ∧ z3 < 9223372036854775808 ∧ z3 % 128 = p0 + p1 + p2 + p3 + p4 + p5 + p6 + p7 := by
  have a1 : z / 256 = p1 + 256 * (p2 + 256 * (p3 + 256 * (p4 + 256 * (p5 + 256 * (p6 + 256 * p7))))) := by clear e1 e2 e3; omega
  rw [a1] at e1
  have a2 : z1 = (p0 + p1) + 256 * ((p1 + p2) + 256 * ((p2 + p3) + 256 * ((p3 + p4) + 256 * ((p4 + p5) + 256 * ((p5 + p6) + 256 * ((p6 + p7) + 256 * p7)))))) := by clear e2 e3 a1; omega
  clear e1 a1 e
  have a3 : z1 / 65536 = (p2 + p3) + 256 * ((p3 + p4) + 256 * ((p4 + p5) + 256 * ((p5 + p6) + 256 * ((p6 + p7) + 256 * p7)))) := by clear e2 e3; omega
  rw [a3] at e2
  have a4 : z2 = (p0 + p1 + p2 + p3) + 256 * ((p1 + p2 + p3 + p4) + 256 * ((p2 + p3 + p4 + p5) + 256 * ((p3 + p4 + p5 + p6) + 256 * ((p4 + p5 + p6 + p7) + 256 * ((p5 + p6 + p7) + 256 * ((p6 + p7) + 256 * p7)))))) := by clear e3 a3; omega
  have b1 : z1 < 18446744073709551616 := by clear a4 e2 e3 a3; omega
  clear a3 e2
  have a5 : z2 / 4294967296 = (p4 + p5 + p6 + p7) + 256 * ((p5 + p6 + p7) + 256 * ((p6 + p7) + 256 * p7)) := by clear e3 a2 b1; omega
  rw [a5] at e3
  have b2 : z2 < 9000000000000000000 := by clear e3 a5 a2 b1; omega
  have a6 : z3 = (p0 + p1 + p2 + p3 + p4 + p5 + p6 + p7) + 256 * (((p1 + p2 + p3 + p4) + 256 * ((p2 + p3 + p4 + p5) + 256 * ((p3 + p4 + p5 + p6) + 256 * ((p4 + p5 + p6 + p7) + 256 * ((p5 + p6 + p7) + 256 * ((p6 + p7) + 256 * p7)))))) + ((p5 + p6 + p7) + 256 * ((p6 + p7) + 256 * p7))) := by clear a5 a2 b1 b2; omega
  have b3 : z3 < 9223372036854775808 := by clear a6 a2 a5; omega
  refine ⟨b1, by omega, b3, ?_⟩
  clear b3 b2 b1 a5 a4 a2 e3
  generalize ((p1 + p2 + p3 + p4) + 256 * ((p2 + p3 + p4 + p5) + 256 * ((p3 + p4 + p5 + p6) + 256 * ((p4 + p5 + p6 + p7) + 256 * ((p5 + p6 + p7) + 256 * ((p6 + p7) + 256 * p7)))))) + ((p5 + p6 + p7) + 256 * ((p6 + p7) + 256 * p7)) = R at a6
  omega
theorem wraps_i64 (n : Int) (h₀ : 0 ≤ n) (h₁ : n < 2 ^ 63) : IntKind.i64.wrap n = n := by rw [w_i64]; omega
theorem shr (a k : Nat) : Int.fdiv (a : Int) (2 ^ k) = ((a / 2 ^ k : Nat) : Int) := by
  have : (2 : Int) ^ k = ((2 ^ k : Nat) : Int) := by rw [Int.natCast_pow]; rfl
  rw [this, fdiv_e (Int.natCast_nonneg _)]
  rfl
theorem pipe (a x1 x2 z S : Nat) (ha : a < 2 ^ 64) (h1 : (a / 2 &&& 6148914691236517205) + (a &&& 6148914691236517205) = x1) (l1 : x1 < 18446744073709551616)
    (h2 : (x1 / 4 &&& 3689348814741910323) + (x1 &&& 3689348814741910323) = x2) (l2 : x2 < 18446744073709551616) (l2' : x2 / 16 + x2 < 18446744073709551616)
    (h3 : (x2 / 16 + x2) &&& 1085102592571150095 = z) (y1 y2 y3 : Nat) (e1 : y1 = z + z / 256) (e2 : y2 = y1 + y1 / 65536) (e3 : y3 = y2 + y2 / 4294967296)
    (g1 : y1 < 18446744073709551616) (g2 : y2 < 18446744073709551616) (g3 : y3 < 9223372036854775808) (g4 : y3 % 128 = S) : f78_bits_OnesCount64 (a : Int) = some (S : Int) := by
  have w : ∀ n : Nat, n < 18446744073709551616 → IntKind.wrap .u64 (n : Int) = (n : Int) := fun n h => by rw [w_u64]; omega
  have c1 : (6148914691236517205 : Int) = ((6148914691236517205 : Nat) : Int) := rfl
  have c2 : (3689348814741910323 : Int) = ((3689348814741910323 : Nat) : Int) := rfl
  have c3 : (1085102592571150095 : Int) = ((1085102592571150095 : Nat) : Int) := rfl
  have E1 : IntKind.wrap .u64 ((bits .and .u64 (Int.fdiv (a : Int) (2 ^ 1)) 6148914691236517205) + (bits .and .u64 (a : Int) 6148914691236517205)) = (x1 : Int) := by
    rw [shr, c1, and_nat _ _ (by omega) (by decide), and_nat _ _ ha (by decide), ← Int.natCast_add, show (2 : Nat) ^ 1 = 2 by decide, h1, w x1 l1]
  have E2 : IntKind.wrap .u64 ((bits .and .u64 (Int.fdiv (x1 : Int) (2 ^ 2)) 3689348814741910323) + (bits .and .u64 (x1 : Int) 3689348814741910323)) = (x2 : Int) := by
    rw [shr, c2, and_nat _ _ (by omega) (by decide), and_nat _ _ (by omega) (by decide), ← Int.natCast_add, show (2 : Nat) ^ 2 = 4 by decide, h2, w x2 l2]
  have E3 : bits .and .u64 (IntKind.wrap .u64 ((Int.fdiv (x2 : Int) (2 ^ 4)) + (x2 : Int))) 1085102592571150095 = (z : Int) := by
    rw [shr, ← Int.natCast_add, show (2 : Nat) ^ 4 = 16 by decide, w _ l2', c3, and_nat _ _ (by omega) (by decide), h3]
  unfold f78_bits_OnesCount64
  rw [E1, E2, E3]
  have E4 : IntKind.wrap .u64 ((z : Int) + Int.fdiv (z : Int) (2 ^ 8)) = (y1 : Int) := by
    rw [shr, ← Int.natCast_add, show (2 : Nat) ^ 8 = 256 by decide, ← e1, w _ g1]
  rw [E4]
  have E5 : IntKind.wrap .u64 ((y1 : Int) + Int.fdiv (y1 : Int) (2 ^ 16)) = (y2 : Int) := by
    rw [shr, ← Int.natCast_add, show (2 : Nat) ^ 16 = 65536 by decide, ← e2, w _ g2]
  rw [E5]
  have E6 : IntKind.wrap .u64 ((y2 : Int) + Int.fdiv (y2 : Int) (2 ^ 32)) = (y3 : Int) := by
    rw [shr, ← Int.natCast_add, show (2 : Nat) ^ 32 = 4294967296 by decide, ← e3, w _ (by omega)]
  rw [E6]
  have E7 : IntKind.wrap .i64 (y3 : Int) = (y3 : Int) := wraps_i64 _ (by omega) (by omega)
  have E8 : bits .and .i64 (y3 : Int) 127 = ((y3 % 128 : Nat) : Int) := by
    have := bits_mask .i64 63 (by decide) wraps_i64 7 (by decide) (y3 : Int) (by omega) (by omega)
    rw [show (2 : Int) ^ 7 - 1 = 127 by decide, show (2 : Int) ^ 7 = 128 by decide] at this
    rw [this]; omega
  rw [E7, E8, g4]
theorem ones_is (a : Nat) (ha : a < 2 ^ 64) : f78_bits_OnesCount64 (a : Int) = some ((ones 64 a : Nat) : Int) := by
  have ha' : a < 18446744073709551616 := by omega
  have hb := bytes8_lt a
  have hv := val8 a ha'
  have hlen : (bytes8 a).length = 8 := rfl
  have h1 := step1 (bytes8 a) hb
  rw [hv, hlen] at h1
  have hb1 : ∀ b ∈ (bytes8 a).map s1, b < 256 := fun b h => by obtain ⟨x, hx, rfl⟩ := List.mem_map.1 h; exact s1_lt ⟨x, hb x hx⟩
  have h2 := step2 ((bytes8 a).map s1) hb1
  rw [List.length_map, hlen] at h2
  have hb2 : ∀ b ∈ ((bytes8 a).map s1).map s2, Low b := fun b h => by
    obtain ⟨y, hy, rfl⟩ := List.mem_map.1 h
    obtain ⟨x, hx, rfl⟩ := List.mem_map.1 hy
    exact s2_low ⟨x, hb x hx⟩
  have h3 := step3 (((bytes8 a).map s1).map s2) hb2
  rw [List.length_map, List.length_map, hlen] at h3
  have l1 : val ((bytes8 a).map s1) < 18446744073709551616 := by have := val_lt _ hb1; rw [List.length_map, hlen] at this; simpa using this
  have l2 : val (((bytes8 a).map s1).map s2) < 5764607523034234880 := by
    have hh : ∀ b ∈ ((bytes8 a).map s1).map s2, b ≤ 68 := fun b h => by have := hb2 b h; unfold Low at this; omega
    generalize hl : ((bytes8 a).map s1).map s2 = l at hh
    have hll : l.length = 8 := by rw [← hl]; rfl
    match l, hll, hh with
    | [c0, c1, c2, c3, c4, c5, c6, c7], _, hh =>
      simp only [List.mem_cons, List.not_mem_nil, or_false, forall_eq_or_imp, forall_eq] at hh
      simp only [val]
      omega
  have hp : ∀ x ∈ bytes8 a, s3 (s2 (s1 x)) = ones 8 x ∧ ones 8 x ≤ 8 := fun x hx => s3_ones ⟨x, hb x hx⟩
  have hsum := ones64 (bytes8 a) hb
  rw [hv, hlen, show 8 * 8 = 64 by decide] at hsum
  have hx3 : val ((((bytes8 a).map s1).map s2).map s3) = val ((bytes8 a).map (ones 8)) := by
    rw [List.map_map, List.map_map]
    congr 1
    exact List.map_congr_left fun x hx => (hp x hx).1
  rw [hx3] at h3
  have hq : ∀ x ∈ (bytes8 a).map (ones 8), x ≤ 8 := fun x hx => by obtain ⟨y, hy, rfl⟩ := List.mem_map.1 hx; exact (hp y hy).2
  rw [hsum]
  generalize hl : (bytes8 a).map (ones 8) = l at h3 hq
  have hll : l.length = 8 := by rw [← hl]; rfl
  match l, hll, hq, h3 with
  | [p0, p1, p2, p3, p4, p5, p6, p7], _, hq, h3 =>
    simp only [List.mem_cons, List.not_mem_nil, or_false, forall_eq_or_imp, forall_eq] at hq
    obtain ⟨g1, g2, g3, g4⟩ := sum8 p0 p1 p2 p3 p4 p5 p6 p7 _ _ _ _ hq (by simp only [val, Nat.mul_zero, Nat.add_zero] : val [p0, p1, p2, p3, p4, p5, p6, p7] = _) rfl rfl rfl
    refine pipe a _ _ _ _ ha h1 l1 h2 (by omega) (by omega) h3 _ _ _ rfl rfl rfl g1 g2 g3 ?_
    rw [g4]
    simp only [List.sum_cons, List.sum_nil]
    omega
end Go.Proofs.YtdcnjkjgmagjmaaF41
