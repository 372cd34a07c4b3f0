/- SipParts: it does not matter how bytes are cut into parts: of the functions that text F03 prints. Conditions: none. -/
import Derived.Test.YtjimlfjhhmdcdaaF03
import Derived.Test.YtjimlfjhhmdcdaaZedPb
namespace Go.Proofs.YtjimlfjhhmdcdaaF03
open Go Zed
set_option linter.unusedVariables false
set_option linter.unusedSimpArgs false

def rot (x : Int) (k j : Nat) : Int := bits .or .u64 (IntKind.wrap .u64 (x * 2 ^ k)) (Int.fdiv x (2 ^ j))
theorem rot_at (x k : Int) (a b : Nat) (h1 : (0 : Int) ≤ bits .and .u64 (IntKind.wrap .u64 k) 63) (h2 : (0 : Int) ≤ IntKind.wrap .u64 (64 - (bits .and .u64 (IntKind.wrap .u64 k) 63)))
    (ha : min (bits .and .u64 (IntKind.wrap .u64 k) 63).toNat (IntKind.bits .u64) = a) (hb : min (IntKind.wrap .u64 (64 - (bits .and .u64 (IntKind.wrap .u64 k) 63))).toNat (IntKind.bits .u64) = b) : f82_bits_RotateLeft64 x k = some (rot x a b) := by
  unfold f82_bits_RotateLeft64
  rw [if_pos h1, if_pos h2, ha, hb]; rfl
theorem left_at (x k : Int) (a b : Nat) (h1 : (0 : Int) ≤ IntKind.wrap .u64 k) (h2 : (0 : Int) ≤ IntKind.wrap .u64 (IntKind.wrap .i64 (64 - k)))
    (ha : min (IntKind.wrap .u64 k).toNat (IntKind.bits .u64) = a) (hb : min (IntKind.wrap .u64 (IntKind.wrap .i64 (64 - k))).toNat (IntKind.bits .u64) = b) : f81_broughamref03_left x k = some (rot x a b) := by
  unfold f81_broughamref03_left
  rw [if_pos h1, if_pos h2, ha, hb]; rfl
theorem rot13 (x : Int) : f82_bits_RotateLeft64 x 13 = some (rot x 13 51) := rot_at x 13 13 51 (by decide) (by decide) (by decide) (by decide)
theorem rot16 (x : Int) : f82_bits_RotateLeft64 x 16 = some (rot x 16 48) := rot_at x 16 16 48 (by decide) (by decide) (by decide) (by decide)
theorem rot17 (x : Int) : f82_bits_RotateLeft64 x 17 = some (rot x 17 47) := rot_at x 17 17 47 (by decide) (by decide) (by decide) (by decide)
theorem rot21 (x : Int) : f82_bits_RotateLeft64 x 21 = some (rot x 21 43) := rot_at x 21 21 43 (by decide) (by decide) (by decide) (by decide)
theorem rot32 (x : Int) : f82_bits_RotateLeft64 x 32 = some (rot x 32 32) := rot_at x 32 32 32 (by decide) (by decide) (by decide) (by decide)
theorem left13 (x : Int) : f81_broughamref03_left x 13 = some (rot x 13 51) := left_at x 13 13 51 (by decide) (by decide) (by decide) (by decide)
theorem left16 (x : Int) : f81_broughamref03_left x 16 = some (rot x 16 48) := left_at x 16 16 48 (by decide) (by decide) (by decide) (by decide)
theorem left17 (x : Int) : f81_broughamref03_left x 17 = some (rot x 17 47) := left_at x 17 17 47 (by decide) (by decide) (by decide) (by decide)
theorem left21 (x : Int) : f81_broughamref03_left x 21 = some (rot x 21 43) := left_at x 21 21 43 (by decide) (by decide) (by decide) (by decide)
theorem left32 (x : Int) : f81_broughamref03_left x 32 = some (rot x 32 32) := left_at x 32 32 32 (by decide) (by decide) (by decide) (by decide)

abbrev V := Int × Int × Int × Int
/-- A round, and a word taken in. -/
def rnd (v : V) : V :=
  let a := IntKind.wrap .u64 (v.1 + v.2.1)
  let b := bits .xor .u64 (rot v.2.1 13 51) a
  let c := IntKind.wrap .u64 (v.2.2.1 + v.2.2.2)
  let d := bits .xor .u64 (rot v.2.2.2 16 48) c
  let e := IntKind.wrap .u64 (rot a 32 32 + d)
  let f := IntKind.wrap .u64 (c + b)
  (e, bits .xor .u64 (rot b 17 47) f, rot f 32 32, bits .xor .u64 (rot d 21 43) e)
def tk (v : V) (m : Int) : V :=
  let w := rnd (rnd (v.1, v.2.1, v.2.2.1, bits .xor .u64 v.2.2.2 m))
  (bits .xor .u64 w.1 m, w.2.1, w.2.2.1, w.2.2.2)

theorem round_is (v : V) (p c : Int) : f80_sip_state_round v.1 v.2.1 v.2.2.1 v.2.2.2 p c = some ((rnd v).1, (rnd v).2.1, (rnd v).2.2.1, (rnd v).2.2.2, p, c) := by
  simp only [f80_sip_state_round, rot13, rot16, rot17, rot21, rot32, Option.bind_some, rnd]
theorem refRound_is (v : V) : f78_broughamref03_round v.1 v.2.1 v.2.2.1 v.2.2.2 = some (rnd v) := by
  simp only [f78_broughamref03_round, left13, left16, left17, left21, left32, Option.bind_some, rnd]
theorem take_is (m : Int) (v : V) (p c : Int) : f79_sip_state_take m v.1 v.2.1 v.2.2.1 v.2.2.2 p c = some ((tk v m).1, (tk v m).2.1, (tk v m).2.2.1, (tk v m).2.2.2, p, c) := by
  have h1 := round_is (v.1, v.2.1, v.2.2.1, bits .xor .u64 v.2.2.2 m) p c
  simp only at h1
  simp only [f79_sip_state_take, h1, round_is, Option.bind_some, tk]
theorem refTake_is (v : V) (m : Int) : f77_broughamref03_take v.1 v.2.1 v.2.2.1 v.2.2.2 m = some (tk v m) := by
  have h1 := refRound_is (v.1, v.2.1, v.2.2.1, bits .xor .u64 v.2.2.2 m)
  simp only at h1
  simp only [f77_broughamref03_take, h1, refRound_is, Option.bind_some, tk]

/-- The state behind a byte. -/
abbrev S := V × Int × Int
def orb (p c : Int) (x : Int) : Int := bits .or .u64 p (IntKind.wrap .u64 ((IntKind.wrap .u64 x) * 2 ^ (min (IntKind.wrap .i64 (8 * (Int.tmod c 8))).toNat (IntKind.bits .u64))))
def stp (s : S) (x : Int) : S :=
  if ((Int.tmod (IntKind.wrap .i64 (s.2.2 + 1)) 8) : Int) == 0 then (tk s.1 (orb s.2.1 s.2.2 x), 0, IntKind.wrap .i64 (s.2.2 + 1)) else (s.1, orb s.2.1 s.2.2 x, IntKind.wrap .i64 (s.2.2 + 1))
def flat (s : S) : Int × Int × Int × Int × Int × Int := (s.1.1, s.1.2.1, s.1.2.2.1, s.1.2.2.2, s.2.1, s.2.2)
theorem byte_is (x : Int) (s : S) (h : 0 ≤ s.2.2) : f75_sip_state_byte x s.1.1 s.1.2.1 s.1.2.2.1 s.1.2.2.2 s.2.1 s.2.2 = some (flat (stp s x)) := by
  unfold f75_sip_state_byte
  have e : (0 : Int) ≤ IntKind.wrap .i64 (8 * Int.tmod s.2.2 8) := by rw [tmod_e h, i64_id (by omega) (by omega)]; omega
  rw [if_pos e]
  by_cases hc : ((Int.tmod (IntKind.wrap .i64 (s.2.2 + 1)) 8) : Int) == 0
  · rw [if_pos hc, take_is]
    simp only [Option.bind_some, stp, if_pos hc, flat, orb]
  · rw [if_neg hc]
    simp only [stp, if_neg hc, flat, orb]
theorem stp_count (s : S) (x : Int) (h : 0 ≤ s.2.2 ∧ s.2.2 < 9223372036854775807) : (stp s x).2.2 = s.2.2 + 1 := by
  unfold stp
  have : IntKind.wrap .i64 (s.2.2 + 1) = s.2.2 + 1 := i64_id (by omega) (by omega)
  split <;> exact this
theorem fold_count : ∀ (l : List Int) (s : S), 0 ≤ s.2.2 → s.2.2 + l.length < 9223372036854775807 → (l.foldl stp s).2.2 = s.2.2 + l.length
  | [], s, h, hl => by simp
  | x :: l, s, h, hl => by
    simp only [List.length_cons] at hl
    have h1 := stp_count s x (by omega)
    have := fold_count l (stp s x) (by omega) (by omega)
    rw [List.foldl_cons, this, h1, List.length_cons]; omega

theorem inner (t12 : List (List Int)) (t13 t14 : Int) (l : List Int) (hl : l.length ≤ 100000000) : ∀ (k i : Nat) (s : S), i + k = l.length → 0 ≤ s.2.2 → s.2.2 + k < 9223372036854775807 →
    Ev (fun n => f56_sip_Sum_L6 n t12 t13 t14 l ((l.length : Nat) : Int) i s.1.1 s.1.2.1 s.1.2.2.1 s.1.2.2.2 s.2.1 s.2.2) (fun r => r = (t12, t13, t14, flat ((l.drop i).foldl stp s)))
  | 0, i, s, h, hs, hb => by
    apply Ev.succ
    simp only [f56_sip_Sum_L6]
    exact Ev.neg (by simp; omega) (Ev.some (by rw [List.drop_eq_nil_of_le (by omega)]; rfl))
  | k + 1, i, s, h, hs, hb => by
    apply Ev.succ
    simp only [f56_sip_Sum_L6]
    have hi : i < l.length := by omega
    refine Ev.pos (by simp; omega) (Ev.guard (by omega) ?_)
    rw [Int.toNat_natCast, byte_is _ s hs]
    simp only [Option.bind_some]
    rw [drop_cons hi 0, i64_id (show -9223372036854775808 ≤ (i : Int) + 1 by omega) (by omega), show (i : Int) + 1 = ((i + 1 : Nat) : Int) by omega]
    have h1 := stp_count s (l.getD i 0) (by omega)
    exact inner t12 t13 t14 l hl k (i + 1) (stp s (l.getD i 0)) (by omega) (by omega) (by omega)

def total (l : List (List Int)) : Nat := l.flatten.length
theorem total_cons (a : List Int) (l : List (List Int)) : total (a :: l) = a.length + total l := by simp [total]

theorem outer (l : List (List Int)) (hl : l.length ≤ 1000) (hp : ∀ a ∈ l, a.length ≤ 5000) : ∀ (k i : Nat) (s : S), i + k = l.length → 0 ≤ s.2.2 → s.2.2 + 5000 * k < 9223372036854775807 →
    Ev (fun n => f56_sip_Sum_L3 n l ((l.length : Nat) : Int) i s.1.1 s.1.2.1 s.1.2.2.1 s.1.2.2.2 s.2.1 s.2.2) (fun r => r = flat ((l.drop i).flatten.foldl stp s))
  | 0, i, s, h, hs, hb => by
    apply Ev.succ
    simp only [f56_sip_Sum_L3]
    exact Ev.neg (by simp; omega) (Ev.some (by rw [List.drop_eq_nil_of_le (by omega)]; rfl))
  | k + 1, i, s, h, hs, hb => by
    apply Ev.succ
    simp only [f56_sip_Sum_L3]
    have hi : i < l.length := by omega
    have ha := hp _ (getD_mem hi [])
    rw [Int.toNat_natCast, drop_cons hi []]
    generalize l.getD i [] = a at *
    refine Ev.pos (by simp; omega) (Ev.guard (by omega) (Ev.bind (inner l ((l.length : Nat) : Int) i a (by omega) a.length 0 s (by omega) hs (by omega)) ?_))
    rintro _ rfl
    have hc := fold_count a s hs (by omega)
    dsimp only [flat]
    rw [List.drop_zero, i64_id (show -9223372036854775808 ≤ (i : Int) + 1 by omega) (by omega), show (i : Int) + 1 = ((i + 1 : Nat) : Int) by omega]
    refine (outer l hl hp k (i + 1) (a.foldl stp s) (by omega) (by omega) (by omega)).mono ?_
    rintro _ rfl
    rw [List.flatten_cons, List.foldl_append]; rfl

/-- What the state says in the end. -/
def fin (s : S) : Int :=
  let v := tk s.1 (bits .or .u64 s.2.1 (IntKind.wrap .u64 ((IntKind.wrap .u64 (IntKind.wrap .u8 s.2.2)) * 2 ^ 56)))
  let w := rnd (rnd (rnd (rnd (v.1, v.2.1, bits .xor .u64 v.2.2.1 255, v.2.2.2))))
  bits .xor .u64 (bits .xor .u64 (bits .xor .u64 w.1 w.2.1) w.2.2.1) w.2.2.2
theorem end_is (s : S) : Ev (fun n => f76_sip_state_end n s.1.1 s.1.2.1 s.1.2.2.1 s.1.2.2.2 s.2.1 s.2.2) (fun r => r.1 = fin s) := by
  simp only [f76_sip_state_end, take_is, Option.bind_some]
  generalize hv : tk s.1 (bits .or .u64 s.2.1 (IntKind.wrap .u64 ((IntKind.wrap .u64 (IntKind.wrap .u8 s.2.2)) * 2 ^ 56))) = v
  have hfin : fin s = bits .xor .u64 (bits .xor .u64 (bits .xor .u64 (rnd (rnd (rnd (rnd (v.1, v.2.1, bits .xor .u64 v.2.2.1 255, v.2.2.2))))).1 (rnd (rnd (rnd (rnd (v.1, v.2.1, bits .xor .u64 v.2.2.1 255, v.2.2.2))))).2.1) (rnd (rnd (rnd (rnd (v.1, v.2.1, bits .xor .u64 v.2.2.1 255, v.2.2.2))))).2.2.1) (rnd (rnd (rnd (rnd (v.1, v.2.1, bits .xor .u64 v.2.2.1 255, v.2.2.2))))).2.2.2 := by
    unfold fin; rw [hv]
  rw [hfin]
  have h1 := round_is (v.1, v.2.1, bits .xor .u64 v.2.2.1 255, v.2.2.2) s.2.1 s.2.2
  simp only at h1
  have loop : Ev (fun n => f76_sip_state_end_L4 n 0 v.1 v.2.1 (bits .xor .u64 v.2.2.1 255) v.2.2.2 s.2.1 s.2.2) (fun r => r = ((rnd (rnd (rnd (rnd (v.1, v.2.1, bits .xor .u64 v.2.2.1 255, v.2.2.2))))).1, (rnd (rnd (rnd (rnd (v.1, v.2.1, bits .xor .u64 v.2.2.1 255, v.2.2.2))))).2.1, (rnd (rnd (rnd (rnd (v.1, v.2.1, bits .xor .u64 v.2.2.1 255, v.2.2.2))))).2.2.1, (rnd (rnd (rnd (rnd (v.1, v.2.1, bits .xor .u64 v.2.2.1 255, v.2.2.2))))).2.2.2, s.2.1, s.2.2)) := by
    have w1 : IntKind.wrap .i64 ((0 : Int) + 1) = 1 := by decide
    have w2 : IntKind.wrap .i64 ((1 : Int) + 1) = 2 := by decide
    have w3 : IntKind.wrap .i64 ((2 : Int) + 1) = 3 := by decide
    have w4 : IntKind.wrap .i64 ((3 : Int) + 1) = 4 := by decide
    apply Ev.succ
    simp only [f76_sip_state_end_L4, h1, Option.bind_some, w1]
    refine Ev.pos (by decide) ?_
    apply Ev.succ
    simp only [f76_sip_state_end_L4, round_is, Option.bind_some, w2]
    refine Ev.pos (by decide) ?_
    apply Ev.succ
    simp only [f76_sip_state_end_L4, round_is, Option.bind_some, w3]
    refine Ev.pos (by decide) ?_
    apply Ev.succ
    simp only [f76_sip_state_end_L4, round_is, Option.bind_some, w4]
    refine Ev.pos (by decide) ?_
    apply Ev.succ
    simp only [f76_sip_state_end_L4]
    exact Ev.neg (by decide) (Ev.some rfl)
  refine Ev.bind loop ?_
  rintro _ rfl
  exact Ev.some rfl

def s0 (a b : Int) : S := ((bits .xor .u64 a 8317987319222330741, bits .xor .u64 b 7237128888997146477, bits .xor .u64 a 7816392313619706465, bits .xor .u64 b 8387220255154660723), 0, 0)
def sum (a b : Int) (l : List Int) : Int := fin (l.foldl stp (s0 a b))
theorem sum_is (a b : Int) (l : List (List Int)) (hl : l.length ≤ 1000) (hp : ∀ x ∈ l, x.length ≤ 20000) : Ev (fun n => f56_sip_Sum n a b l) (fun r => r = sum a b l.flatten) := by
  have outerB : ∀ (k i : Nat) (s : S), i + k = l.length → 0 ≤ s.2.2 → s.2.2 + 20000 * k < 9223372036854775807 →
    Ev (fun n => f56_sip_Sum_L3 n l ((l.length : Nat) : Int) i s.1.1 s.1.2.1 s.1.2.2.1 s.1.2.2.2 s.2.1 s.2.2) (fun r => r = flat ((l.drop i).flatten.foldl stp s)) := by
    intro k
    induction k with
    | zero =>
      intro i s h hs hb
      apply Ev.succ
      simp only [f56_sip_Sum_L3]
      exact Ev.neg (by simp; omega) (Ev.some (by rw [List.drop_eq_nil_of_le (by omega)]; rfl))
    | succ k ih =>
      intro i s h hs hb
      apply Ev.succ
      simp only [f56_sip_Sum_L3]
      have hi : i < l.length := by omega
      have ha := hp _ (getD_mem hi [])
      rw [Int.toNat_natCast, drop_cons hi []]
      generalize l.getD i [] = a at *
      refine Ev.pos (by simp; omega) (Ev.guard (by omega) (Ev.bind (inner l ((l.length : Nat) : Int) i a (by omega) a.length 0 s (by omega) hs (by omega)) ?_))
      rintro _ rfl
      have hc := fold_count a s hs (by omega)
      dsimp only [flat]
      rw [List.drop_zero, i64_id (show -9223372036854775808 ≤ (i : Int) + 1 by omega) (by omega), show (i : Int) + 1 = ((i + 1 : Nat) : Int) by omega]
      refine (ih (i + 1) (a.foldl stp s) (by omega) (by omega) (by omega)).mono ?_
      rintro _ rfl
      rw [List.flatten_cons, List.foldl_append]; rfl
  simp only [f56_sip_Sum, f74_sip_begin, Option.bind_some]
  refine Ev.bind (outerB l.length 0 (s0 a b) (by omega) (by simp [s0]) (by simp [s0]; omega)) ?_
  rintro _ rfl
  rw [List.drop_zero]
  dsimp only [flat]
  refine Ev.bind (end_is _) ?_
  intro r hr
  exact Ev.some hr
theorem pair_is (a b : Int) (l : List (List Int)) (hl : l.length ≤ 900) (hp : ∀ x ∈ l, x.length ≤ 20000) : Ev (fun n => f58_sip_Pair n a b l) (fun r => r = (sum a b (1 :: l.flatten), sum a b (2 :: l.flatten))) := by
  simp only [f58_sip_Pair]
  refine Ev.guard (by simp [maxLen]; omega) (Ev.guard (by simp [maxLen]; omega) (Ev.bind (sum_is a b _ (by simp; omega) (fun x hx => ?_)) ?_))
  · simp at hx; rcases hx with rfl | hx; decide; exact hp x hx
  rintro _ rfl
  refine Ev.bind (sum_is a b _ (by simp; omega) (fun x hx => ?_)) ?_
  · simp at hx; rcases hx with rfl | hx; decide; exact hp x hx
  rintro _ rfl
  exact Ev.some (by simp)

theorem alive_is : Ev (fun n => f60_broughamlaw03_alive n) (fun r => r = true) := by
  have e1 : sum 506097522914230528 1084818905618843912 ([] : List (List Int)).flatten = 8246050544436514353 := by decide +kernel
  have e2 : sum 506097522914230528 1084818905618843912 ([[0, 1, 2, 3, 4, 5, 6, 7, 8, 9, 10, 11, 12, 13, 14]] : List (List Int)).flatten = 11613035633349379557 := by decide +kernel
  simp only [f60_broughamlaw03_alive]
  refine Ev.bind (sum_is _ _ [] (by simp) (by simp)) ?_
  rintro _ rfl
  rw [e1]
  refine Ev.pos (by decide) (Ev.bind (sum_is _ _ _ (by simp) (by simp)) ?_)
  rintro _ rfl
  rw [e2]
  exact Ev.some (by decide)

theorem joins (a b : Int) (l : List (List Int)) (hl : l.length ≤ 60) : ∀ (k i : Nat) (all : List Int), i + k = l.length → all = (l.take i).flatten → all.length ≤ 300 * i → (∀ x ∈ l.take i, x.length ≤ 300) →
    Ev (fun n => f11_broughamlaw03_SipParts_L5 n l all i a b) (fun r => r = .inl true ∨ (r = .inr (l, l.flatten, a, b) ∧ ∀ x ∈ l, x.length ≤ 300))
  | 0, i, all, h, hall, ho, hs => by
    apply Ev.succ
    simp only [f11_broughamlaw03_SipParts_L5]
    rw [List.take_of_length_le (by omega)] at hall hs
    exact Ev.neg (by simp; omega) (Ev.some (.inr ⟨by rw [hall], hs⟩))
  | k + 1, i, all, h, hall, ho, hs => by
    apply Ev.succ
    simp only [f11_broughamlaw03_SipParts_L5]
    have hi : i < l.length := by omega
    have ht : l.take (i + 1) = l.take i ++ [l.getD i []] := by
      rw [List.take_succ_eq_append_getElem hi]; simp [List.getD, List.getElem?_eq_getElem hi]
    rw [Int.toNat_natCast, i64_id (show -9223372036854775808 ≤ (i : Int) + 1 by omega) (by omega), show (i : Int) + 1 = ((i + 1 : Nat) : Int) by omega]
    refine Ev.pos (by simp; omega) (Ev.guard (by omega) (Ev.ite (fun _ => Ev.some (.inl rfl)) (fun h1 => Ev.guard (by omega) ?_)))
    simp only [gt_iff_lt, decide_eq_true_eq] at h1
    refine Ev.guard (by simp only [maxLen]; omega) (joins a b l hl k (i + 1) _ (by omega) (by rw [ht, hall]; simp) (by rw [List.length_append]; omega) ?_)
    intro x hx
    rw [ht] at hx
    rcases List.mem_append.1 hx with h2 | h2
    · exact hs x h2
    · simp only [List.mem_singleton] at h2; subst h2; omega

theorem flat_len (l : List (List Int)) (m : Nat) (h : ∀ x ∈ l, x.length ≤ m) : l.flatten.length ≤ m * l.length := by
  induction l with
  | nil => simp
  | cons x l ih =>
    have := ih (fun y hy => h y (List.mem_cons_of_mem _ hy))
    have := h x List.mem_cons_self
    rw [List.flatten_cons, List.length_append, List.length_cons, Nat.mul_add]; omega

theorem SipParts (k : Int × Int) (h0 : K.ok (.pair (.int .u64) (.int .u64)) k) (l : List (List Int)) (h1 : K.ok (.slice (.slice (.int .u8))) l) : ∃ n, f11_broughamlaw03_SipParts n k.1 k.2 l = some true := by
  obtain ⟨a, b⟩ := k
  dsimp only
  apply Ev.true
  simp only [f11_broughamlaw03_SipParts]
  refine Ev.ite (fun _ => Ev.some rfl) fun a1 => ?_
  simp only [gt_iff_lt, decide_eq_true_eq] at a1
  refine Ev.bind (joins a b l (by omega) l.length 0 [] (by omega) (by simp) (by simp) (by simp)) ?_
  rintro _ (rfl | ⟨rfl, hs⟩)
  · exact Ev.some rfl
  · dsimp only
    have hfl := flat_len l 300 hs
    have hp : ∀ x ∈ l, x.length ≤ 20000 := fun x hx => Nat.le_trans (hs x hx) (by decide)
    have hp2 : ∀ x ∈ [l.flatten], x.length ≤ 20000 := fun x hx => by simp at hx; subst hx; omega
    refine Ev.bind (sum_is a b l (by omega) hp) ?_
    rintro _ rfl
    refine Ev.bind (sum_is a b [l.flatten] (by simp) hp2) ?_
    rintro _ rfl
    refine Ev.pos (by simp) (Ev.bind (pair_is a b l (by omega) hp) ?_)
    rintro _ rfl
    refine Ev.bind (pair_is a b [l.flatten] (by simp) hp2) ?_
    rintro _ rfl
    exact Ev.pos (by simp) (Ev.bind alive_is (fun r hr => Ev.some hr))
end Go.Proofs.YtjimlfjhhmdcdaaF03
