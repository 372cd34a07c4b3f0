/- SIP: what the program's and the reference's sums are, in plain numbers. Conditions: none. -/
import Derived.Test.YtdcnjkjgmagjmaaF09
import Derived.Test.YtdcnjkjgmagjmaaZedPb
namespace Go.Proofs.YtdcnjkjgmagjmaaF09
open Go Zed
set_option linter.unusedVariables false
set_option linter.unusedSimpArgs false

def rot (x : Int) (k j : Nat) : Int := bits .or .u64 (IntKind.wrap .u64 (x * 2 ^ k)) (Int.fdiv x (2 ^ j))
theorem rot_at (x k : Int) (a b : Nat) (h1 : (0 : Int) ≤ bits .and .u64 (IntKind.wrap .u64 k) 63) (h2 : (0 : Int) ≤ IntKind.wrap .u64 (64 - (bits .and .u64 (IntKind.wrap .u64 k) 63)))
    (ha : min (bits .and .u64 (IntKind.wrap .u64 k) 63).toNat (IntKind.bits .u64) = a) (hb : min (IntKind.wrap .u64 (64 - (bits .and .u64 (IntKind.wrap .u64 k) 63))).toNat (IntKind.bits .u64) = b) : f141_bits_RotateLeft64 x k = some (rot x a b) := by
  unfold f141_bits_RotateLeft64
  rw [if_pos h1, if_pos h2, ha, hb]; rfl
theorem left_at (x k : Int) (a b : Nat) (h1 : (0 : Int) ≤ IntKind.wrap .u64 k) (h2 : (0 : Int) ≤ IntKind.wrap .u64 (IntKind.wrap .i64 (64 - k)))
    (ha : min (IntKind.wrap .u64 k).toNat (IntKind.bits .u64) = a) (hb : min (IntKind.wrap .u64 (IntKind.wrap .i64 (64 - k))).toNat (IntKind.bits .u64) = b) : f140_broughamref03_left x k = some (rot x a b) := by
  unfold f140_broughamref03_left
  rw [if_pos h1, if_pos h2, ha, hb]; rfl
theorem rot13 (x : Int) : f141_bits_RotateLeft64 x 13 = some (rot x 13 51) := rot_at x 13 13 51 (by decide) (by decide) (by decide) (by decide)
theorem rot16 (x : Int) : f141_bits_RotateLeft64 x 16 = some (rot x 16 48) := rot_at x 16 16 48 (by decide) (by decide) (by decide) (by decide)
theorem rot17 (x : Int) : f141_bits_RotateLeft64 x 17 = some (rot x 17 47) := rot_at x 17 17 47 (by decide) (by decide) (by decide) (by decide)
theorem rot21 (x : Int) : f141_bits_RotateLeft64 x 21 = some (rot x 21 43) := rot_at x 21 21 43 (by decide) (by decide) (by decide) (by decide)
theorem rot32 (x : Int) : f141_bits_RotateLeft64 x 32 = some (rot x 32 32) := rot_at x 32 32 32 (by decide) (by decide) (by decide) (by decide)
theorem left13 (x : Int) : f140_broughamref03_left x 13 = some (rot x 13 51) := left_at x 13 13 51 (by decide) (by decide) (by decide) (by decide)
theorem left16 (x : Int) : f140_broughamref03_left x 16 = some (rot x 16 48) := left_at x 16 16 48 (by decide) (by decide) (by decide) (by decide)
theorem left17 (x : Int) : f140_broughamref03_left x 17 = some (rot x 17 47) := left_at x 17 17 47 (by decide) (by decide) (by decide) (by decide)
theorem left21 (x : Int) : f140_broughamref03_left x 21 = some (rot x 21 43) := left_at x 21 21 43 (by decide) (by decide) (by decide) (by decide)
theorem left32 (x : Int) : f140_broughamref03_left x 32 = some (rot x 32 32) := left_at x 32 32 32 (by decide) (by decide) (by decide) (by decide)

abbrev V := Int × Int × Int × Int
/-- A round, and a word taken in. -/
def rnd (v : V) : V :=
  let a := IntKind.wrap .u64 (v.1 + v.2.1)
  let b := bits .xor .u64 (rot v.2.1 13 51) a
  let c := IntKind.wrap .u64 (v.2.2.1 + v.2.2.2)
  let d := bits .xor .u64 (rot v.2.2.2 16 48) c
  let e := IntKind.wrap .u64 (rot a 32 32 + d)
  let f := IntKind.wrap .u64 (c + b)
  (e, bits .xor .u64 (rot b 17 47) f, rot f 32 32, bits .xor .u64 (rot d 21 43) e)
def tk (v : V) (m : Int) : V :=
  let w := rnd (rnd (v.1, v.2.1, v.2.2.1, bits .xor .u64 v.2.2.2 m))
  (bits .xor .u64 w.1 m, w.2.1, w.2.2.1, w.2.2.2)

theorem round_is (v : V) (p c : Int) : f139_sip_state_round v.1 v.2.1 v.2.2.1 v.2.2.2 p c = some ((rnd v).1, (rnd v).2.1, (rnd v).2.2.1, (rnd v).2.2.2, p, c) := by
  simp only [f139_sip_state_round, rot13, rot16, rot17, rot21, rot32, Option.bind_some, rnd]
theorem refRound_is (v : V) : f120_broughamref03_round v.1 v.2.1 v.2.2.1 v.2.2.2 = some (rnd v) := by
  simp only [f120_broughamref03_round, left13, left16, left17, left21, left32, Option.bind_some, rnd]
theorem take_is (m : Int) (v : V) (p c : Int) : f138_sip_state_take m v.1 v.2.1 v.2.2.1 v.2.2.2 p c = some ((tk v m).1, (tk v m).2.1, (tk v m).2.2.1, (tk v m).2.2.2, p, c) := by
  have h1 := round_is (v.1, v.2.1, v.2.2.1, bits .xor .u64 v.2.2.2 m) p c
  simp only at h1
  simp only [f138_sip_state_take, h1, round_is, Option.bind_some, tk]
theorem refTake_is (v : V) (m : Int) : f119_broughamref03_take v.1 v.2.1 v.2.2.1 v.2.2.2 m = some (tk v m) := by
  have h1 := refRound_is (v.1, v.2.1, v.2.2.1, bits .xor .u64 v.2.2.2 m)
  simp only at h1
  simp only [f119_broughamref03_take, h1, refRound_is, Option.bind_some, tk]

/-- The state behind a byte. -/
abbrev S := V × Int × Int
def orb (p c : Int) (x : Int) : Int := bits .or .u64 p (IntKind.wrap .u64 ((IntKind.wrap .u64 x) * 2 ^ (min (IntKind.wrap .i64 (8 * (Int.tmod c 8))).toNat (IntKind.bits .u64))))
def stp (s : S) (x : Int) : S :=
  if ((Int.tmod (IntKind.wrap .i64 (s.2.2 + 1)) 8) : Int) == 0 then (tk s.1 (orb s.2.1 s.2.2 x), 0, IntKind.wrap .i64 (s.2.2 + 1)) else (s.1, orb s.2.1 s.2.2 x, IntKind.wrap .i64 (s.2.2 + 1))
def flat (s : S) : Int × Int × Int × Int × Int × Int := (s.1.1, s.1.2.1, s.1.2.2.1, s.1.2.2.2, s.2.1, s.2.2)
theorem byte_is (x : Int) (s : S) (h : 0 ≤ s.2.2) : f117_sip_state_byte x s.1.1 s.1.2.1 s.1.2.2.1 s.1.2.2.2 s.2.1 s.2.2 = some (flat (stp s x)) := by
  unfold f117_sip_state_byte
  have e : (0 : Int) ≤ IntKind.wrap .i64 (8 * Int.tmod s.2.2 8) := by rw [tmod_e h, i64_id (by omega) (by omega)]; omega
  rw [if_pos e]
  by_cases hc : ((Int.tmod (IntKind.wrap .i64 (s.2.2 + 1)) 8) : Int) == 0
  · rw [if_pos hc, take_is]
    simp only [Option.bind_some, stp, if_pos hc, flat, orb]
  · rw [if_neg hc]
    simp only [stp, if_neg hc, flat, orb]
theorem stp_count (s : S) (x : Int) (h : 0 ≤ s.2.2 ∧ s.2.2 < 9223372036854775807) : (stp s x).2.2 = s.2.2 + 1 := by
  unfold stp
  have : IntKind.wrap .i64 (s.2.2 + 1) = s.2.2 + 1 := i64_id (by omega) (by omega)
  split <;> exact this
theorem fold_count : ∀ (l : List Int) (s : S), 0 ≤ s.2.2 → s.2.2 + l.length < 9223372036854775807 → (l.foldl stp s).2.2 = s.2.2 + l.length
  | [], s, h, hl => by simp
  | x :: l, s, h, hl => by
    simp only [List.length_cons] at hl
    have h1 := stp_count s x (by omega)
    have := fold_count l (stp s x) (by omega) (by omega)
    rw [List.foldl_cons, this, h1, List.length_cons]; omega

theorem inner (t12 : List (List Int)) (t13 t14 : Int) (l : List Int) (hl : l.length ≤ 100000000) : ∀ (k i : Nat) (s : S), i + k = l.length → 0 ≤ s.2.2 → s.2.2 + k < 9223372036854775807 →
    Ev (fun n => f80_sip_Sum_L6 n t12 t13 t14 l ((l.length : Nat) : Int) i s.1.1 s.1.2.1 s.1.2.2.1 s.1.2.2.2 s.2.1 s.2.2) (fun r => r = (t12, t13, t14, flat ((l.drop i).foldl stp s)))
  | 0, i, s, h, hs, hb => by
    apply Ev.succ
    simp only [f80_sip_Sum_L6]
    exact Ev.neg (by simp; omega) (Ev.some (by rw [List.drop_eq_nil_of_le (by omega)]; rfl))
  | k + 1, i, s, h, hs, hb => by
    apply Ev.succ
    simp only [f80_sip_Sum_L6]
    have hi : i < l.length := by omega
    refine Ev.pos (by simp; omega) (Ev.guard (by omega) ?_)
    rw [Int.toNat_natCast, byte_is _ s hs]
    simp only [Option.bind_some]
    rw [drop_cons hi 0, i64_id (show -9223372036854775808 ≤ (i : Int) + 1 by omega) (by omega), show (i : Int) + 1 = ((i + 1 : Nat) : Int) by omega]
    have h1 := stp_count s (l.getD i 0) (by omega)
    exact inner t12 t13 t14 l hl k (i + 1) (stp s (l.getD i 0)) (by omega) (by omega) (by omega)

def total (l : List (List Int)) : Nat := l.flatten.length
theorem total_cons (a : List Int) (l : List (List Int)) : total (a :: l) = a.length + total l := by simp [total]

theorem outer (l : List (List Int)) (hl : l.length ≤ 1000) (hp : ∀ a ∈ l, a.length ≤ 5000) : ∀ (k i : Nat) (s : S), i + k = l.length → 0 ≤ s.2.2 → s.2.2 + 5000 * k < 9223372036854775807 →
    Ev (fun n => f80_sip_Sum_L3 n l ((l.length : Nat) : Int) i s.1.1 s.1.2.1 s.1.2.2.1 s.1.2.2.2 s.2.1 s.2.2) (fun r => r = flat ((l.drop i).flatten.foldl stp s))
  | 0, i, s, h, hs, hb => by
    apply Ev.succ
    simp only [f80_sip_Sum_L3]
    exact Ev.neg (by simp; omega) (Ev.some (by rw [List.drop_eq_nil_of_le (by omega)]; rfl))
  | k + 1, i, s, h, hs, hb => by
    apply Ev.succ
    simp only [f80_sip_Sum_L3]
    have hi : i < l.length := by omega
    have ha := hp _ (getD_mem hi [])
    rw [Int.toNat_natCast, drop_cons hi []]
    generalize l.getD i [] = a at *
    refine Ev.pos (by simp; omega) (Ev.guard (by omega) (Ev.bind (inner l ((l.length : Nat) : Int) i a (by omega) a.length 0 s (by omega) hs (by omega)) ?_))
    rintro _ rfl
    have hc := fold_count a s hs (by omega)
    dsimp only [flat]
    rw [List.drop_zero, i64_id (show -9223372036854775808 ≤ (i : Int) + 1 by omega) (by omega), show (i : Int) + 1 = ((i + 1 : Nat) : Int) by omega]
    refine (outer l hl hp k (i + 1) (a.foldl stp s) (by omega) (by omega) (by omega)).mono ?_
    rintro _ rfl
    rw [List.flatten_cons, List.foldl_append]; rfl

/-- What the state says in the end. -/
def fin (s : S) : Int :=
  let v := tk s.1 (bits .or .u64 s.2.1 (IntKind.wrap .u64 ((IntKind.wrap .u64 (IntKind.wrap .u8 s.2.2)) * 2 ^ 56)))
  let w := rnd (rnd (rnd (rnd (v.1, v.2.1, bits .xor .u64 v.2.2.1 255, v.2.2.2))))
  bits .xor .u64 (bits .xor .u64 (bits .xor .u64 w.1 w.2.1) w.2.2.1) w.2.2.2
theorem end_is (s : S) : Ev (fun n => f118_sip_state_end n s.1.1 s.1.2.1 s.1.2.2.1 s.1.2.2.2 s.2.1 s.2.2) (fun r => r.1 = fin s) := by
  simp only [f118_sip_state_end, take_is, Option.bind_some]
  generalize hv : tk s.1 (bits .or .u64 s.2.1 (IntKind.wrap .u64 ((IntKind.wrap .u64 (IntKind.wrap .u8 s.2.2)) * 2 ^ 56))) = v
  have hfin : fin s = bits .xor .u64 (bits .xor .u64 (bits .xor .u64 (rnd (rnd (rnd (rnd (v.1, v.2.1, bits .xor .u64 v.2.2.1 255, v.2.2.2))))).1 (rnd (rnd (rnd (rnd (v.1, v.2.1, bits .xor .u64 v.2.2.1 255, v.2.2.2))))).2.1) (rnd (rnd (rnd (rnd (v.1, v.2.1, bits .xor .u64 v.2.2.1 255, v.2.2.2))))).2.2.1) (rnd (rnd (rnd (rnd (v.1, v.2.1, bits .xor .u64 v.2.2.1 255, v.2.2.2))))).2.2.2 := by
    unfold fin; rw [hv]
  rw [hfin]
  have h1 := round_is (v.1, v.2.1, bits .xor .u64 v.2.2.1 255, v.2.2.2) s.2.1 s.2.2
  simp only at h1
  have loop : Ev (fun n => f118_sip_state_end_L4 n 0 v.1 v.2.1 (bits .xor .u64 v.2.2.1 255) v.2.2.2 s.2.1 s.2.2) (fun r => r = ((rnd (rnd (rnd (rnd (v.1, v.2.1, bits .xor .u64 v.2.2.1 255, v.2.2.2))))).1, (rnd (rnd (rnd (rnd (v.1, v.2.1, bits .xor .u64 v.2.2.1 255, v.2.2.2))))).2.1, (rnd (rnd (rnd (rnd (v.1, v.2.1, bits .xor .u64 v.2.2.1 255, v.2.2.2))))).2.2.1, (rnd (rnd (rnd (rnd (v.1, v.2.1, bits .xor .u64 v.2.2.1 255, v.2.2.2))))).2.2.2, s.2.1, s.2.2)) := by
    have w1 : IntKind.wrap .i64 ((0 : Int) + 1) = 1 := by decide
    have w2 : IntKind.wrap .i64 ((1 : Int) + 1) = 2 := by decide
    have w3 : IntKind.wrap .i64 ((2 : Int) + 1) = 3 := by decide
    have w4 : IntKind.wrap .i64 ((3 : Int) + 1) = 4 := by decide
    apply Ev.succ
    simp only [f118_sip_state_end_L4, h1, Option.bind_some, w1]
    refine Ev.pos (by decide) ?_
    apply Ev.succ
    simp only [f118_sip_state_end_L4, round_is, Option.bind_some, w2]
    refine Ev.pos (by decide) ?_
    apply Ev.succ
    simp only [f118_sip_state_end_L4, round_is, Option.bind_some, w3]
    refine Ev.pos (by decide) ?_
    apply Ev.succ
    simp only [f118_sip_state_end_L4, round_is, Option.bind_some, w4]
    refine Ev.pos (by decide) ?_
    apply Ev.succ
    simp only [f118_sip_state_end_L4]
    exact Ev.neg (by decide) (Ev.some rfl)
  refine Ev.bind loop ?_
  rintro _ rfl
  exact Ev.some rfl

def s0 (a b : Int) : S := ((bits .xor .u64 a 8317987319222330741, bits .xor .u64 b 7237128888997146477, bits .xor .u64 a 7816392313619706465, bits .xor .u64 b 8387220255154660723), 0, 0)
def sum (a b : Int) (l : List Int) : Int := fin (l.foldl stp (s0 a b))
theorem sum_is (a b : Int) (l : List (List Int)) (hl : l.length ≤ 1000) (hp : ∀ x ∈ l, x.length ≤ 20000) : Ev (fun n => f80_sip_Sum n a b l) (fun r => r = sum a b l.flatten) := by
  have outerB : ∀ (k i : Nat) (s : S), i + k = l.length → 0 ≤ s.2.2 → s.2.2 + 20000 * k < 9223372036854775807 →
    Ev (fun n => f80_sip_Sum_L3 n l ((l.length : Nat) : Int) i s.1.1 s.1.2.1 s.1.2.2.1 s.1.2.2.2 s.2.1 s.2.2) (fun r => r = flat ((l.drop i).flatten.foldl stp s)) := by
    intro k
    induction k with
    | zero =>
      intro i s h hs hb
      apply Ev.succ
      simp only [f80_sip_Sum_L3]
      exact Ev.neg (by simp; omega) (Ev.some (by rw [List.drop_eq_nil_of_le (by omega)]; rfl))
    | succ k ih =>
      intro i s h hs hb
      apply Ev.succ
      simp only [f80_sip_Sum_L3]
      have hi : i < l.length := by omega
      have ha := hp _ (getD_mem hi [])
      rw [Int.toNat_natCast, drop_cons hi []]
      generalize l.getD i [] = a at *
      refine Ev.pos (by simp; omega) (Ev.guard (by omega) (Ev.bind (inner l ((l.length : Nat) : Int) i a (by omega) a.length 0 s (by omega) hs (by omega)) ?_))
      rintro _ rfl
      have hc := fold_count a s hs (by omega)
      dsimp only [flat]
      rw [List.drop_zero, i64_id (show -9223372036854775808 ≤ (i : Int) + 1 by omega) (by omega), show (i : Int) + 1 = ((i + 1 : Nat) : Int) by omega]
      refine (ih (i + 1) (a.foldl stp s) (by omega) (by omega) (by omega)).mono ?_
      rintro _ rfl
      rw [List.flatten_cons, List.foldl_append]; rfl
  simp only [f80_sip_Sum, f116_sip_begin, Option.bind_some]
  refine Ev.bind (outerB l.length 0 (s0 a b) (by omega) (by simp [s0]) (by simp [s0]; omega)) ?_
  rintro _ rfl
  rw [List.drop_zero]
  dsimp only [flat]
  refine Ev.bind (end_is _) ?_
  intro r hr
  exact Ev.some hr
theorem pair_is (a b : Int) (l : List (List Int)) (hl : l.length ≤ 900) (hp : ∀ x ∈ l, x.length ≤ 20000) : Ev (fun n => f79_sip_Pair n a b l) (fun r => r = (sum a b (1 :: l.flatten), sum a b (2 :: l.flatten))) := by
  simp only [f79_sip_Pair]
  refine Ev.guard (by simp [maxLen]; omega) (Ev.guard (by simp [maxLen]; omega) (Ev.bind (sum_is a b _ (by simp; omega) (fun x hx => ?_)) ?_))
  · simp at hx; rcases hx with rfl | hx; decide; exact hp x hx
  rintro _ rfl
  refine Ev.bind (sum_is a b _ (by simp; omega) (fun x hx => ?_)) ?_
  · simp at hx; rcases hx with rfl | hx; decide; exact hp x hx
  rintro _ rfl
  exact Ev.some (by simp)

/-- The number of bytes, the lowest first. -/
def le : List Int → Int
  | [] => 0
  | c :: r => c + 256 * le r
theorem le_snoc : ∀ (l : List Int) (c : Int), le (l ++ [c]) = le l + 256 ^ l.length * c
  | [], c => by simp [le]
  | d :: l, c => by
    rw [List.cons_append, le, le_snoc l c, le, List.length_cons, Int.pow_succ, Int.mul_add]
    rw [show 256 * (256 ^ l.length * c) = 256 ^ l.length * 256 * c by rw [Int.mul_comm ((256 : Int) ^ l.length) 256, Int.mul_assoc]]
    omega
theorem le_in : ∀ (l : List Int), Bytes l → 0 ≤ le l ∧ le l < 256 ^ l.length
  | [], h => by simp [le]
  | c :: l, h => by
    have := le_in l h.tail
    have := h.head
    rw [le, List.length_cons, Int.pow_succ]; omega
theorem pow256 (s : Nat) : (2 : Int) ^ (8 * s) = 256 ^ s := by rw [Int.pow_mul]; rfl
theorem pow_le {a b : Nat} (h : a ≤ b) : (256 : Int) ^ a ≤ 256 ^ b := by
  have := Nat.pow_le_pow_right (n := 256) (by decide) h
  have := Int.ofNat_le.2 this
  rw [Int.natCast_pow, Int.natCast_pow] at this
  exact this
theorem p8 : (256 : Int) ^ 8 = 18446744073709551616 := by decide
theorem p7 : (256 : Int) ^ 7 = 72057594037927936 := by decide

/-- A byte comes to those of its word. -/
theorem orb_is (l : List Int) (c x : Int) (hl : l.length ≤ 7) (hb : Bytes l) (hc : 0 ≤ c ∧ c < 9223372036854775807) (hm : c % 8 = l.length) (hx : 0 ≤ x ∧ x < 256) : orb (le l) c x = le (l ++ [x]) := by
  have h1 := le_in l hb
  have h2 := pow_le hl
  unfold orb
  rw [tmod_e hc.1, hm, i64_id (by omega) (by omega), u64_id (show 0 ≤ x by omega) (by omega)]
  have e2 : min (8 * (l.length : Int)).toNat (IntKind.bits .u64) = 8 * l.length := by simp [IntKind.bits]; omega
  rw [e2, pow256, le_snoc]
  have hp : 0 < (256 : Int) ^ l.length := Int.pow_pos (by decide)
  have hlt : x * 256 ^ l.length < 18446744073709551616 := by
    have a1 : x * 256 ^ l.length ≤ 255 * 256 ^ l.length := Int.mul_le_mul_of_nonneg_right (by omega) (by omega)
    rw [p7] at h2
    omega
  have hnn : 0 ≤ x * 256 ^ l.length := Int.mul_nonneg hx.1 (by omega)
  rw [u64_id hnn hlt]
  have := bits_join .u64 64 (by decide) wraps_u64 (8 * l.length) (x * 256 ^ l.length) (le l) hnn (by rw [pow256]; exact Int.mul_emod_left _ _) (by rw [show (2 : Int) ^ 64 = 18446744073709551616 by decide]; omega) h1.1 (by rw [pow256]; exact h1.2) (by rw [show (2 : Int) ^ 64 = 18446744073709551616 by decide]; rw [p7] at h2; omega)
  have hcomm : bits .or .u64 (le l) (x * 256 ^ l.length) = bits .or .u64 (x * 256 ^ l.length) (le l) := by
    show IntKind.u64.wrap (((BitVec.ofInt 64 _) ||| (BitVec.ofInt 64 _)).toNat : Int) = IntKind.u64.wrap (((BitVec.ofInt 64 _) ||| (BitVec.ofInt 64 _)).toNat : Int)
    rw [BitVec.or_comm]
  rw [hcomm, this, Int.mul_comm x]
  omega

/-- Bytes that do not fill a word. -/
theorem part : ∀ (r l : List Int) (v : V) (c : Int), Bytes l → Bytes r → l.length + r.length ≤ 7 → 0 ≤ c → c + r.length < 9223372036854775807 → c % 8 = l.length → r.foldl stp (v, le l, c) = (v, le (l ++ r), c + r.length)
  | [], l, v, c, hl, hr, hn, hc, hcb, hm => by simp
  | x :: r, l, v, c, hl, hr, hn, hc, hcb, hm => by
    simp only [List.length_cons] at hn hcb
    have e : stp (v, le l, c) x = (v, le (l ++ [x]), c + 1) := by
      unfold stp
      simp only
      have w : IntKind.wrap .i64 (c + 1) = c + 1 := i64_id (by omega) (by omega)
      rw [w, tmod_e (by omega), if_neg (by simp; omega), orb_is l c x (by omega) hl (by omega) hm hr.head]
    have h2 := part r (l ++ [x]) v (c + 1) (hl.append (Bytes.cons hr.head Bytes.nil)) hr.tail (by simp; omega) (by omega) (by omega) (by simp; omega)
    rw [List.foldl_cons, e, h2, List.append_assoc, List.singleton_append, List.length_cons]
    congr 2; omega
/-- A word's bytes. -/
theorem word (l : List Int) (v : V) (c : Int) (hb : Bytes l) (hl : l.length = 8) (hc : 0 ≤ c) (hcb : c + 8 < 9223372036854775807) (hm : c % 8 = 0) : l.foldl stp (v, 0, c) = (tk v (le l), 0, c + 8) := by
  have hd : l = l.take 7 ++ [l.getD 7 0] := by
    have := drop_cons (l := l) (i := 7) (by omega) 0
    rw [show l.drop (7 + 1) = [] from List.drop_eq_nil_of_le (by omega)] at this
    rw [← this, List.take_append_drop]
  have hx := hb.get 7
  have ht : (l.take 7).length = 7 := by simp; omega
  have h1 := part (l.take 7) [] v c Bytes.nil (hb.take 7) (by simp; omega) hc (by rw [ht]; omega) (by simpa using hm)
  rw [List.nil_append, ht] at h1
  have e0 : le [] = 0 := rfl
  rw [e0] at h1
  rw [hd, List.foldl_append, h1]
  show stp (v, le (l.take 7), c + ((7 : Nat) : Int)) (l.getD 7 0) = _
  unfold stp
  simp only
  have w : IntKind.wrap .i64 (c + ((7 : Nat) : Int) + 1) = c + 8 := by rw [i64_id (by omega) (by omega)]; omega
  rw [w, tmod_e (by omega), if_pos (by simp; omega), orb_is (l.take 7) (c + ((7 : Nat) : Int)) _ (by omega) (hb.take 7) (by omega) (by omega) hx]

theorem u64_lt {k : Nat} (hk : k ≤ 8) {m y : Int} (hm : 0 ≤ m ∧ m * 256 ^ k < 18446744073709551616) : m < 18446744073709551616 := by
  have : 1 ≤ (256 : Int) ^ k := Int.pow_pos (by decide)
  have := Int.mul_le_mul_of_nonneg_left this hm.1
  omega

/-- The reference's word. -/
theorem refWord (b : List Int) (at_ : Nat) (hb : Bytes b) (hbl : b.length ≤ 100000) (v : V) : ∀ (k : Nat) (m : Int), k ≤ 8 → at_ + k ≤ b.length → 0 ≤ m → (m + 1) * 256 ^ k ≤ 18446744073709551616 →
    Ev (fun n => f82_broughamref03_Sum_L6 n b at_ m ((k : Int) - 1) v.1 v.2.1 v.2.2.1 v.2.2.2) (fun r => r = (b, (at_ : Int), m * 256 ^ k + le ((b.drop at_).take k), v.1, v.2.1, v.2.2.1, v.2.2.2))
  | 0, m, hk, ha, hm, hmb => by
    apply Ev.succ
    simp only [f82_broughamref03_Sum_L6]
    exact Ev.neg (by simp) (Ev.some (by simp [le]))
  | k + 1, m, hk, ha, hm, hmb => by
    apply Ev.succ
    simp only [f82_broughamref03_Sum_L6]
    have e : ((k + 1 : Nat) : Int) - 1 = k := by omega
    have hc := hb.get (at_ + k)
    have hp : 1 ≤ (256 : Int) ^ k := Int.pow_pos (by decide)
    have hmb' : (m * 256 + 256) * 256 ^ k ≤ 18446744073709551616 := by
      rw [Int.pow_succ, ← Int.mul_assoc, Int.mul_right_comm, ] at hmb
      rw [show m * 256 + 256 = (m + 1) * 256 by omega]; exact hmb
    have hsm : m * 256 + 256 ≤ 18446744073709551616 := by
      have := Int.mul_le_mul_of_nonneg_left hp (show 0 ≤ m * 256 + 256 by omega)
      omega
    rw [e, i64_id (show -9223372036854775808 ≤ (at_ : Int) + k by omega) (by omega), i64_id (show -9223372036854775808 ≤ (k : Int) - 1 by omega) (by omega), show ((at_ : Int) + k).toNat = at_ + k by omega]
    have hw : IntKind.wrap .u64 (IntKind.wrap .u64 (m * 256) + IntKind.wrap .u64 (b.getD (at_ + k) 0)) = m * 256 + b.getD (at_ + k) 0 := by
      rw [u64_id (show 0 ≤ m * 256 by omega) (by omega), u64_id hc.1 (by omega), u64_id (by omega) (by omega)]
    rw [hw]
    refine Ev.pos (by simp) (Ev.guard (by omega) ((refWord b at_ hb hbl v k (m * 256 + b.getD (at_ + k) 0) (by omega) (by omega) (by omega) ?_).mono ?_))
    · have := Int.mul_le_mul_of_nonneg_right (show m * 256 + b.getD (at_ + k) 0 + 1 ≤ m * 256 + 256 by omega) (show 0 ≤ (256 : Int) ^ k by omega)
      omega
    · rintro _ rfl
      have ht : (b.drop at_).take (k + 1) = (b.drop at_).take k ++ [b.getD (at_ + k) 0] := by
        rw [List.take_succ_eq_append_getElem (by simp; omega)]
        simp [List.getD, List.getElem?_eq_getElem (show at_ + k < b.length by omega)]
      have hlen : ((b.drop at_).take k).length = k := by simp; omega
      rw [ht, le_snoc, hlen, Int.add_mul, Int.pow_succ, Int.mul_comm (b.getD (at_ + k) 0) (256 ^ k), Int.mul_assoc, Int.mul_comm (256 : Int) (256 ^ k)]
      have : ∀ a b c : Int, a + b + c = a + (c + b) := by intros; omega
      rw [this]

theorem refBlocks (b : List Int) (hb : Bytes b) (hbl : b.length ≤ 100000) : ∀ (k at_ : Nat) (v : V), b.length = at_ + 8 * k + b.length % 8 → at_ % 8 = 0 →
    Ev (fun n => f82_broughamref03_Sum_L3 n b at_ v.1 v.2.1 v.2.2.1 v.2.2.2) (fun r => ∃ w : V, r = (b, ((at_ + 8 * k : Nat) : Int), w.1, w.2.1, w.2.2.1, w.2.2.2) ∧ (b.drop at_).foldl stp (v, 0, (at_ : Int)) = (b.drop (at_ + 8 * k)).foldl stp (w, 0, ((at_ + 8 * k : Nat) : Int)))
  | 0, at_, v, h, ha => by
    apply Ev.succ
    simp only [f82_broughamref03_Sum_L3]
    rw [i64_id (by omega) (by omega)]
    exact Ev.neg (by simp; omega) (Ev.some ⟨v, rfl, rfl⟩)
  | k + 1, at_, v, h, ha => by
    apply Ev.succ
    simp only [f82_broughamref03_Sum_L3]
    rw [i64_id (by omega) (by omega)]
    have hw := refWord b at_ hb hbl v 8 0 (by omega) (by omega) (by omega) (by rw [p8]; omega)
    rw [show ((8 : Nat) : Int) - 1 = 7 by decide] at hw
    refine Ev.pos (by simp; omega) (Ev.bind hw ?_)
    rintro _ rfl
    dsimp only
    rw [refTake_is, Int.zero_mul, Int.zero_add]
    simp only [Option.bind_some]
    rw [i64_id (by omega) (by omega), show (at_ : Int) + 8 = ((at_ + 8 : Nat) : Int) by omega]
    refine (refBlocks b hb hbl k (at_ + 8) (tk v (le ((b.drop at_).take 8))) (by omega) (by omega)).mono ?_
    rintro _ ⟨w, rfl, h2⟩
    refine ⟨w, by rw [show at_ + 8 + 8 * k = at_ + 8 * (k + 1) by omega], ?_⟩
    rw [show at_ + 8 + 8 * k = at_ + 8 * (k + 1) by omega] at h2
    rw [← h2]
    have hs : b.drop at_ = (b.drop at_).take 8 ++ b.drop (at_ + 8) := by rw [← List.drop_drop, List.take_append_drop]
    rw [hs, List.foldl_append, word ((b.drop at_).take 8) v at_ ((hb.drop _).take _) (by simp; omega) (by omega) (by omega) (by omega)]
    have e1 : ((b.drop at_).take 8 ++ b.drop (at_ + 8)).take 8 = (b.drop at_).take 8 := by rw [← hs]
    rw [e1]
    rfl

/-- The reference's last word. -/
theorem refLast (b : List Int) (at_ : Nat) (hb : Bytes b) (hbl : b.length ≤ 100000) (v : V) (ha : at_ ≤ b.length) : ∀ (k : Nat) (m : Int), k ≤ 7 → 0 ≤ m → (m + 1) * 256 ^ k ≤ 18446744073709551616 →
    Ev (fun n => f82_broughamref03_Sum_L13 n b at_ m ((k : Int) - 1) v.1 v.2.1 v.2.2.1 v.2.2.2) (fun r => r = (m * 256 ^ k + le ((b.drop at_).take k), v.1, v.2.1, v.2.2.1, v.2.2.2))
  | 0, m, hk, hm, hmb => by
    apply Ev.succ
    simp only [f82_broughamref03_Sum_L13]
    exact Ev.neg (by simp) (Ev.some (by simp [le]))
  | k + 1, m, hk, hm, hmb => by
    apply Ev.succ
    simp only [f82_broughamref03_Sum_L13]
    have e : ((k + 1 : Nat) : Int) - 1 = k := by omega
    have hc := hb.get (at_ + k)
    have hp : 1 ≤ (256 : Int) ^ k := Int.pow_pos (by decide)
    have hmb' : (m * 256 + 256) * 256 ^ k ≤ 18446744073709551616 := by
      rw [Int.pow_succ, ← Int.mul_assoc, Int.mul_right_comm, ] at hmb
      rw [show m * 256 + 256 = (m + 1) * 256 by omega]; exact hmb
    have hsm : m * 256 + 256 ≤ 18446744073709551616 := by
      have := Int.mul_le_mul_of_nonneg_left hp (show 0 ≤ m * 256 + 256 by omega)
      omega
    rw [e, i64_id (show -9223372036854775808 ≤ (at_ : Int) + k by omega) (by omega), i64_id (show -9223372036854775808 ≤ (k : Int) - 1 by omega) (by omega), show ((at_ : Int) + k).toNat = at_ + k by omega]
    have hw : IntKind.wrap .u64 (IntKind.wrap .u64 (m * 256) + IntKind.wrap .u64 (b.getD (at_ + k) 0)) = m * 256 + b.getD (at_ + k) 0 := by
      rw [u64_id (show 0 ≤ m * 256 by omega) (by omega), u64_id hc.1 (by omega), u64_id (by omega) (by omega)]
    have hw0 : IntKind.wrap .u64 (IntKind.wrap .u64 (m * 256) + 0) = m * 256 := by
      rw [u64_id (show 0 ≤ m * 256 by omega) (by omega), u64_id (by omega) (by omega)]; omega
    rw [hw, hw0]
    refine Ev.pos (by simp) (Ev.ite (fun h1 => Ev.guard (by simp at h1; omega) ((refLast b at_ hb hbl v ha k (m * 256 + b.getD (at_ + k) 0) (by omega) (by omega) ?_).mono ?_)) (fun h1 => (refLast b at_ hb hbl v ha k (m * 256) (by omega) (by omega) ?_).mono ?_))
    · have := Int.mul_le_mul_of_nonneg_right (show m * 256 + b.getD (at_ + k) 0 + 1 ≤ m * 256 + 256 by omega) (show 0 ≤ (256 : Int) ^ k by omega)
      omega
    · rintro _ rfl
      simp only [decide_eq_true_eq] at h1
      have ht : (b.drop at_).take (k + 1) = (b.drop at_).take k ++ [b.getD (at_ + k) 0] := by
        rw [List.take_succ_eq_append_getElem (by simp; omega)]
        simp [List.getD, List.getElem?_eq_getElem (show at_ + k < b.length by omega)]
      have hlen : ((b.drop at_).take k).length = k := by simp; omega
      rw [ht, le_snoc, hlen, Int.add_mul, Int.pow_succ, Int.mul_comm (b.getD (at_ + k) 0) (256 ^ k), Int.mul_assoc, Int.mul_comm (256 : Int) (256 ^ k)]
      have : ∀ a b c : Int, a + b + c = a + (c + b) := by intros; omega
      rw [this]
    · have := Int.mul_le_mul_of_nonneg_right (show m * 256 + 1 ≤ m * 256 + 256 by omega) (show 0 ≤ (256 : Int) ^ k by omega)
      omega
    · rintro _ rfl
      simp only [decide_eq_true_eq] at h1
      have ht : (b.drop at_).take (k + 1) = (b.drop at_).take k := by
        rw [List.take_of_length_le (by simp; omega), List.take_of_length_le (by simp; omega)]
      rw [ht, Int.pow_succ, Int.mul_assoc, Int.mul_comm (256 : Int) (256 ^ k)]

theorem refSum_is (a c : Int) (b : List Int) (hb : Bytes b) (hbl : b.length ≤ 100000) : Ev (fun n => f82_broughamref03_Sum n a c b) (fun r => r = sum a c b) := by
  simp only [f82_broughamref03_Sum]
  refine Ev.bind (refBlocks b hb hbl (b.length / 8) 0 (s0 a c).1 (by omega) (by omega)) ?_
  rintro _ ⟨w, rfl, hfold⟩
  dsimp only
  rw [Nat.zero_add]
  rw [Nat.zero_add, List.drop_zero] at hfold
  have htl : (b.drop (8 * (b.length / 8))).length = b.length % 8 := by simp; omega
  have hpart := part (b.drop (8 * (b.length / 8))) [] w ((8 * (b.length / 8) : Nat) : Int) Bytes.nil (hb.drop _) (by rw [htl]; simp; omega) (by omega) (by rw [htl]; omega) (by simp)
  rw [show le [] = 0 from rfl, List.nil_append, htl] at hpart
  have hlen : (b.drop (8 * (b.length / 8))).take 7 = b.drop (8 * (b.length / 8)) := List.take_of_length_le (by omega)
  have hl := refLast b (8 * (b.length / 8)) hb hbl w (by omega) 7 ((b.length : Int) % 256) (by omega) (by omega) (by rw [p7]; omega)
  rw [show ((7 : Nat) : Int) - 1 = 6 by decide, hlen, p7] at hl
  rw [tmod_e (by omega), u64_id (show 0 ≤ (b.length : Int) % 256 by omega) (by omega)]
  refine Ev.bind hl ?_
  rintro _ rfl
  dsimp only
  refine Ev.bind (P := fun r => r = tk w ((b.length : Int) % 256 * 72057594037927936 + le (b.drop (8 * (b.length / 8))))) (Ev.of (refTake_is w _) rfl) ?_
  intro v hv
  have hsum : sum a c b = fin (w, le (b.drop (8 * (b.length / 8))), ((8 * (b.length / 8) : Nat) : Int) + ((b.length % 8 : Nat) : Int)) := by
    unfold sum
    have hs : s0 a c = ((s0 a c).1, 0, ((0 : Nat) : Int)) := by unfold s0; rfl
    rw [hs, hfold, hpart]
  have hle := le_in _ (hb.drop (8 * (b.length / 8)))
  rw [htl] at hle
  have hle7 : le (b.drop (8 * (b.length / 8))) < 72057594037927936 := by
    have := pow_le (show b.length % 8 ≤ 7 by omega); rw [p7] at this; omega
  have hword : bits .or .u64 (le (b.drop (8 * (b.length / 8)))) (IntKind.wrap .u64 ((IntKind.wrap .u64 (IntKind.wrap .u8 (((8 * (b.length / 8) : Nat) : Int) + ((b.length % 8 : Nat) : Int)))) * 2 ^ 56)) = (b.length : Int) % 256 * 72057594037927936 + le (b.drop (8 * (b.length / 8))) := by
    have e1 : IntKind.wrap .u8 (((8 * (b.length / 8) : Nat) : Int) + ((b.length % 8 : Nat) : Int)) = (b.length : Int) % 256 := by rw [w_u8]; omega
    rw [e1, u64_id (show 0 ≤ (b.length : Int) % 256 by omega) (by omega), show (2 : Int) ^ 56 = 72057594037927936 by decide, u64_id (show 0 ≤ (b.length : Int) % 256 * 72057594037927936 by omega) (by omega)]
    have := bits_join .u64 64 (by decide) wraps_u64 56 ((b.length : Int) % 256 * 72057594037927936) (le (b.drop (8 * (b.length / 8)))) (by omega) (by rw [show (2 : Int) ^ 56 = 72057594037927936 by decide]; omega) (by rw [show (2 : Int) ^ 64 = 18446744073709551616 by decide]; omega) hle.1 (by rw [show (2 : Int) ^ 56 = 72057594037927936 by decide]; omega) (by rw [show (2 : Int) ^ 64 = 18446744073709551616 by decide]; omega)
    have hcomm : ∀ x y : Int, bits .or .u64 x y = bits .or .u64 y x := fun x y => by
      show IntKind.u64.wrap (((BitVec.ofInt 64 _) ||| (BitVec.ofInt 64 _)).toNat : Int) = IntKind.u64.wrap (((BitVec.ofInt 64 _) ||| (BitVec.ofInt 64 _)).toNat : Int)
      rw [BitVec.or_comm]
    rw [hcomm, this]
  rw [hsum]
  unfold fin
  dsimp only
  rw [hword, ← hv]
  refine Ev.bind (P := fun r => r = rnd (v.1, v.2.1, bits .xor .u64 v.2.2.1 255, v.2.2.2)) (Ev.of (refRound_is (v.1, v.2.1, bits .xor .u64 v.2.2.1 255, v.2.2.2)) rfl) ?_
  intro v1 h1
  refine Ev.bind (P := fun r => r = rnd v1) (Ev.of (refRound_is v1) rfl) ?_
  intro v2 h2
  refine Ev.bind (P := fun r => r = rnd v2) (Ev.of (refRound_is v2) rfl) ?_
  intro v3 h3
  refine Ev.bind (P := fun r => r = rnd v3) (Ev.of (refRound_is v3) rfl) ?_
  intro v4 h4
  rw [← h1, ← h2, ← h3, ← h4]
  exact Ev.some rfl

theorem refPair_is (a c : Int) (b : List Int) (hb : Bytes b) (hbl : b.length ≤ 90000) : Ev (fun n => f81_broughamref03_Pair n a c b) (fun r => r = (sum a c (1 :: b), sum a c (2 :: b))) := by
  simp only [f81_broughamref03_Pair]
  refine Ev.guard (by simp [maxLen]; omega) (Ev.bind (refSum_is a c _ (Bytes.cons (by decide) hb) (by simp; omega)) ?_)
  rintro _ rfl
  refine Ev.guard (by simp [maxLen]; omega) (Ev.bind (refSum_is a c _ (Bytes.cons (by decide) hb) (by simp; omega)) ?_)
  rintro _ rfl
  exact Ev.some rfl

end Go.Proofs.YtdcnjkjgmagjmaaF09
