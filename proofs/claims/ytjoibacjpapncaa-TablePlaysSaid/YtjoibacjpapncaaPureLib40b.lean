/- What functions of this text leave, in plain numbers: proved for another text, and for this one by the same steps. Conditions: none. -/
import Derived.Test.YtjoibacjpapncaaF40b
import Derived.Test.YtjoibacjpapncaaZedPb
namespace Go.Proofs.YtjoibacjpapncaaF40b
open Go Zed
set_option linter.unusedVariables false
set_option linter.unusedSimpArgs false

def rot (x : Int) (k j : Nat) : Int := bits .or .u64 (IntKind.wrap .u64 (x * 2 ^ k)) (Int.fdiv x (2 ^ j))
theorem rot_at (x k : Int) (a b : Nat) (h1 : (0 : Int) ≤ bits .and .u64 (IntKind.wrap .u64 k) 63) (h2 : (0 : Int) ≤ IntKind.wrap .u64 (64 - (bits .and .u64 (IntKind.wrap .u64 k) 63)))
    (ha : min (bits .and .u64 (IntKind.wrap .u64 k) 63).toNat (IntKind.bits .u64) = a) (hb : min (IntKind.wrap .u64 (64 - (bits .and .u64 (IntKind.wrap .u64 k) 63))).toNat (IntKind.bits .u64) = b) : f145_bits_RotateLeft64 x k = some (rot x a b) := by
  unfold f145_bits_RotateLeft64
  rw [if_pos h1, if_pos h2, ha, hb]; rfl
theorem rot13 (x : Int) : f145_bits_RotateLeft64 x 13 = some (rot x 13 51) := rot_at x 13 13 51 (by decide) (by decide) (by decide) (by decide)
theorem rot16 (x : Int) : f145_bits_RotateLeft64 x 16 = some (rot x 16 48) := rot_at x 16 16 48 (by decide) (by decide) (by decide) (by decide)
theorem rot17 (x : Int) : f145_bits_RotateLeft64 x 17 = some (rot x 17 47) := rot_at x 17 17 47 (by decide) (by decide) (by decide) (by decide)
theorem rot21 (x : Int) : f145_bits_RotateLeft64 x 21 = some (rot x 21 43) := rot_at x 21 21 43 (by decide) (by decide) (by decide) (by decide)
theorem rot32 (x : Int) : f145_bits_RotateLeft64 x 32 = some (rot x 32 32) := rot_at x 32 32 32 (by decide) (by decide) (by decide) (by decide)
abbrev V := Int × Int × Int × Int
/-- A round, and a word taken in. -/
def rnd (v : V) : V :=
  let a := IntKind.wrap .u64 (v.1 + v.2.1)
  let b := bits .xor .u64 (rot v.2.1 13 51) a
  let c := IntKind.wrap .u64 (v.2.2.1 + v.2.2.2)
  let d := bits .xor .u64 (rot v.2.2.2 16 48) c
  let e := IntKind.wrap .u64 (rot a 32 32 + d)
  let f := IntKind.wrap .u64 (c + b)
  (e, bits .xor .u64 (rot b 17 47) f, rot f 32 32, bits .xor .u64 (rot d 21 43) e)
def tk (v : V) (m : Int) : V :=
  let w := rnd (rnd (v.1, v.2.1, v.2.2.1, bits .xor .u64 v.2.2.2 m))
  (bits .xor .u64 w.1 m, w.2.1, w.2.2.1, w.2.2.2)

theorem round_is (v : V) (p c : Int) : f142_sip_state_round v.1 v.2.1 v.2.2.1 v.2.2.2 p c = some ((rnd v).1, (rnd v).2.1, (rnd v).2.2.1, (rnd v).2.2.2, p, c) := by
  simp only [f142_sip_state_round, rot13, rot16, rot17, rot21, rot32, Option.bind_some, rnd]
theorem take_is (m : Int) (v : V) (p c : Int) : f141_sip_state_take m v.1 v.2.1 v.2.2.1 v.2.2.2 p c = some ((tk v m).1, (tk v m).2.1, (tk v m).2.2.1, (tk v m).2.2.2, p, c) := by
  have h1 := round_is (v.1, v.2.1, v.2.2.1, bits .xor .u64 v.2.2.2 m) p c
  simp only at h1
  simp only [f141_sip_state_take, h1, round_is, Option.bind_some, tk]
/-- The state behind a byte. -/
abbrev S := V × Int × Int
def orb (p c : Int) (x : Int) : Int := bits .or .u64 p (IntKind.wrap .u64 ((IntKind.wrap .u64 x) * 2 ^ (min (IntKind.wrap .i64 (8 * (Int.tmod c 8))).toNat (IntKind.bits .u64))))
def stp (s : S) (x : Int) : S :=
  if ((Int.tmod (IntKind.wrap .i64 (s.2.2 + 1)) 8) : Int) == 0 then (tk s.1 (orb s.2.1 s.2.2 x), 0, IntKind.wrap .i64 (s.2.2 + 1)) else (s.1, orb s.2.1 s.2.2 x, IntKind.wrap .i64 (s.2.2 + 1))
def flat (s : S) : Int × Int × Int × Int × Int × Int := (s.1.1, s.1.2.1, s.1.2.2.1, s.1.2.2.2, s.2.1, s.2.2)
theorem byte_is (x : Int) (s : S) (h : 0 ≤ s.2.2) : f136_sip_state_byte x s.1.1 s.1.2.1 s.1.2.2.1 s.1.2.2.2 s.2.1 s.2.2 = some (flat (stp s x)) := by
  unfold f136_sip_state_byte
  have e : (0 : Int) ≤ IntKind.wrap .i64 (8 * Int.tmod s.2.2 8) := by rw [tmod_e h, i64_id (by omega) (by omega)]; omega
  rw [if_pos e]
  by_cases hc : ((Int.tmod (IntKind.wrap .i64 (s.2.2 + 1)) 8) : Int) == 0
  · rw [if_pos hc, take_is]
    simp only [Option.bind_some, stp, if_pos hc, flat, orb]
  · rw [if_neg hc]
    simp only [stp, if_neg hc, flat, orb]
theorem stp_count (s : S) (x : Int) (h : 0 ≤ s.2.2 ∧ s.2.2 < 9223372036854775807) : (stp s x).2.2 = s.2.2 + 1 := by
  unfold stp
  have : IntKind.wrap .i64 (s.2.2 + 1) = s.2.2 + 1 := i64_id (by omega) (by omega)
  split <;> exact this
theorem fold_count : ∀ (l : List Int) (s : S), 0 ≤ s.2.2 → s.2.2 + l.length < 9223372036854775807 → (l.foldl stp s).2.2 = s.2.2 + l.length
  | [], s, h, hl => by simp
  | x :: l, s, h, hl => by
    simp only [List.length_cons] at hl
    have h1 := stp_count s x (by omega)
    have := fold_count l (stp s x) (by omega) (by omega)
    rw [List.foldl_cons, this, h1, List.length_cons]; omega

theorem inner (t12 : List (List Int)) (t13 t14 : Int) (l : List Int) (hl : l.length ≤ 100000000) : ∀ (k i : Nat) (s : S), i + k = l.length → 0 ≤ s.2.2 → s.2.2 + k < 9223372036854775807 →
    Ev (fun n => f124_sip_Sum_L6 n t12 t13 t14 l ((l.length : Nat) : Int) i s.1.1 s.1.2.1 s.1.2.2.1 s.1.2.2.2 s.2.1 s.2.2) (fun r => r = (t12, t13, t14, flat ((l.drop i).foldl stp s)))
  | 0, i, s, h, hs, hb => by
    apply Ev.succ
    simp only [f124_sip_Sum_L6]
    exact Ev.neg (by simp; omega) (Ev.some (by rw [List.drop_eq_nil_of_le (by omega)]; rfl))
  | k + 1, i, s, h, hs, hb => by
    apply Ev.succ
    simp only [f124_sip_Sum_L6]
    have hi : i < l.length := by omega
    refine Ev.pos (by simp; omega) (Ev.guard (by omega) ?_)
    rw [Int.toNat_natCast, byte_is _ s hs]
    simp only [Option.bind_some]
    rw [drop_cons hi 0, i64_id (show -9223372036854775808 ≤ (i : Int) + 1 by omega) (by omega), show (i : Int) + 1 = ((i + 1 : Nat) : Int) by omega]
    have h1 := stp_count s (l.getD i 0) (by omega)
    exact inner t12 t13 t14 l hl k (i + 1) (stp s (l.getD i 0)) (by omega) (by omega) (by omega)

def total (l : List (List Int)) : Nat := l.flatten.length
theorem total_cons (a : List Int) (l : List (List Int)) : total (a :: l) = a.length + total l := by simp [total]

theorem outer (l : List (List Int)) (hl : l.length ≤ 1000) (hp : ∀ a ∈ l, a.length ≤ 5000) : ∀ (k i : Nat) (s : S), i + k = l.length → 0 ≤ s.2.2 → s.2.2 + 5000 * k < 9223372036854775807 →
    Ev (fun n => f124_sip_Sum_L3 n l ((l.length : Nat) : Int) i s.1.1 s.1.2.1 s.1.2.2.1 s.1.2.2.2 s.2.1 s.2.2) (fun r => r = flat ((l.drop i).flatten.foldl stp s))
  | 0, i, s, h, hs, hb => by
    apply Ev.succ
    simp only [f124_sip_Sum_L3]
    exact Ev.neg (by simp; omega) (Ev.some (by rw [List.drop_eq_nil_of_le (by omega)]; rfl))
  | k + 1, i, s, h, hs, hb => by
    apply Ev.succ
    simp only [f124_sip_Sum_L3]
    have hi : i < l.length := by omega
    have ha := hp _ (getD_mem hi [])
    rw [Int.toNat_natCast, drop_cons hi []]
    generalize l.getD i [] = a at *
    refine Ev.pos (by simp; omega) (Ev.guard (by omega) (Ev.bind (inner l ((l.length : Nat) : Int) i a (by omega) a.length 0 s (by omega) hs (by omega)) ?_))
    rintro _ rfl
    have hc := fold_count a s hs (by omega)
    dsimp only [flat]
    rw [List.drop_zero, i64_id (show -9223372036854775808 ≤ (i : Int) + 1 by omega) (by omega), show (i : Int) + 1 = ((i + 1 : Nat) : Int) by omega]
    refine (outer l hl hp k (i + 1) (a.foldl stp s) (by omega) (by omega) (by omega)).mono ?_
    rintro _ rfl
    rw [List.flatten_cons, List.foldl_append]; rfl

/-- What the state says in the end. -/
def fin (s : S) : Int :=
  let v := tk s.1 (bits .or .u64 s.2.1 (IntKind.wrap .u64 ((IntKind.wrap .u64 (IntKind.wrap .u8 s.2.2)) * 2 ^ 56)))
  let w := rnd (rnd (rnd (rnd (v.1, v.2.1, bits .xor .u64 v.2.2.1 255, v.2.2.2))))
  bits .xor .u64 (bits .xor .u64 (bits .xor .u64 w.1 w.2.1) w.2.2.1) w.2.2.2
theorem end_is (s : S) : Ev (fun n => f137_sip_state_end n s.1.1 s.1.2.1 s.1.2.2.1 s.1.2.2.2 s.2.1 s.2.2) (fun r => r.1 = fin s) := by
  simp only [f137_sip_state_end, take_is, Option.bind_some]
  generalize hv : tk s.1 (bits .or .u64 s.2.1 (IntKind.wrap .u64 ((IntKind.wrap .u64 (IntKind.wrap .u8 s.2.2)) * 2 ^ 56))) = v
  have hfin : fin s = bits .xor .u64 (bits .xor .u64 (bits .xor .u64 (rnd (rnd (rnd (rnd (v.1, v.2.1, bits .xor .u64 v.2.2.1 255, v.2.2.2))))).1 (rnd (rnd (rnd (rnd (v.1, v.2.1, bits .xor .u64 v.2.2.1 255, v.2.2.2))))).2.1) (rnd (rnd (rnd (rnd (v.1, v.2.1, bits .xor .u64 v.2.2.1 255, v.2.2.2))))).2.2.1) (rnd (rnd (rnd (rnd (v.1, v.2.1, bits .xor .u64 v.2.2.1 255, v.2.2.2))))).2.2.2 := by
    unfold fin; rw [hv]
  rw [hfin]
  have h1 := round_is (v.1, v.2.1, bits .xor .u64 v.2.2.1 255, v.2.2.2) s.2.1 s.2.2
  simp only at h1
  have loop : Ev (fun n => f137_sip_state_end_L4 n 0 v.1 v.2.1 (bits .xor .u64 v.2.2.1 255) v.2.2.2 s.2.1 s.2.2) (fun r => r = ((rnd (rnd (rnd (rnd (v.1, v.2.1, bits .xor .u64 v.2.2.1 255, v.2.2.2))))).1, (rnd (rnd (rnd (rnd (v.1, v.2.1, bits .xor .u64 v.2.2.1 255, v.2.2.2))))).2.1, (rnd (rnd (rnd (rnd (v.1, v.2.1, bits .xor .u64 v.2.2.1 255, v.2.2.2))))).2.2.1, (rnd (rnd (rnd (rnd (v.1, v.2.1, bits .xor .u64 v.2.2.1 255, v.2.2.2))))).2.2.2, s.2.1, s.2.2)) := by
    have w1 : IntKind.wrap .i64 ((0 : Int) + 1) = 1 := by decide
    have w2 : IntKind.wrap .i64 ((1 : Int) + 1) = 2 := by decide
    have w3 : IntKind.wrap .i64 ((2 : Int) + 1) = 3 := by decide
    have w4 : IntKind.wrap .i64 ((3 : Int) + 1) = 4 := by decide
    apply Ev.succ
    simp only [f137_sip_state_end_L4, h1, Option.bind_some, w1]
    refine Ev.pos (by decide) ?_
    apply Ev.succ
    simp only [f137_sip_state_end_L4, round_is, Option.bind_some, w2]
    refine Ev.pos (by decide) ?_
    apply Ev.succ
    simp only [f137_sip_state_end_L4, round_is, Option.bind_some, w3]
    refine Ev.pos (by decide) ?_
    apply Ev.succ
    simp only [f137_sip_state_end_L4, round_is, Option.bind_some, w4]
    refine Ev.pos (by decide) ?_
    apply Ev.succ
    simp only [f137_sip_state_end_L4]
    exact Ev.neg (by decide) (Ev.some rfl)
  refine Ev.bind loop ?_
  rintro _ rfl
  exact Ev.some rfl

def s0 (a b : Int) : S := ((bits .xor .u64 a 8317987319222330741, bits .xor .u64 b 7237128888997146477, bits .xor .u64 a 7816392313619706465, bits .xor .u64 b 8387220255154660723), 0, 0)
def sum (a b : Int) (l : List Int) : Int := fin (l.foldl stp (s0 a b))
theorem sum_is (a b : Int) (l : List (List Int)) (hl : l.length ≤ 1000) (hp : ∀ x ∈ l, x.length ≤ 20000) : Ev (fun n => f124_sip_Sum n a b l) (fun r => r = sum a b l.flatten) := by
  have outerB : ∀ (k i : Nat) (s : S), i + k = l.length → 0 ≤ s.2.2 → s.2.2 + 20000 * k < 9223372036854775807 →
    Ev (fun n => f124_sip_Sum_L3 n l ((l.length : Nat) : Int) i s.1.1 s.1.2.1 s.1.2.2.1 s.1.2.2.2 s.2.1 s.2.2) (fun r => r = flat ((l.drop i).flatten.foldl stp s)) := by
    intro k
    induction k with
    | zero =>
      intro i s h hs hb
      apply Ev.succ
      simp only [f124_sip_Sum_L3]
      exact Ev.neg (by simp; omega) (Ev.some (by rw [List.drop_eq_nil_of_le (by omega)]; rfl))
    | succ k ih =>
      intro i s h hs hb
      apply Ev.succ
      simp only [f124_sip_Sum_L3]
      have hi : i < l.length := by omega
      have ha := hp _ (getD_mem hi [])
      rw [Int.toNat_natCast, drop_cons hi []]
      generalize l.getD i [] = a at *
      refine Ev.pos (by simp; omega) (Ev.guard (by omega) (Ev.bind (inner l ((l.length : Nat) : Int) i a (by omega) a.length 0 s (by omega) hs (by omega)) ?_))
      rintro _ rfl
      have hc := fold_count a s hs (by omega)
      dsimp only [flat]
      rw [List.drop_zero, i64_id (show -9223372036854775808 ≤ (i : Int) + 1 by omega) (by omega), show (i : Int) + 1 = ((i + 1 : Nat) : Int) by omega]
      refine (ih (i + 1) (a.foldl stp s) (by omega) (by omega) (by omega)).mono ?_
      rintro _ rfl
      rw [List.flatten_cons, List.foldl_append]; rfl
  simp only [f124_sip_Sum, f135_sip_begin, Option.bind_some]
  refine Ev.bind (outerB l.length 0 (s0 a b) (by omega) (by simp [s0]) (by simp [s0]; omega)) ?_
  rintro _ rfl
  rw [List.drop_zero]
  dsimp only [flat]
  refine Ev.bind (end_is _) ?_
  intro r hr
  exact Ev.some hr
/-- The number of bytes, the lowest first. -/
def le : List Int → Int
  | [] => 0
  | c :: r => c + 256 * le r
theorem le_snoc : ∀ (l : List Int) (c : Int), le (l ++ [c]) = le l + 256 ^ l.length * c
  | [], c => by simp [le]
  | d :: l, c => by
    rw [List.cons_append, le, le_snoc l c, le, List.length_cons, Int.pow_succ, Int.mul_add]
    rw [show 256 * (256 ^ l.length * c) = 256 ^ l.length * 256 * c by rw [Int.mul_comm ((256 : Int) ^ l.length) 256, Int.mul_assoc]]
    omega
theorem pow256 (s : Nat) : (2 : Int) ^ (8 * s) = 256 ^ s := by rw [Int.pow_mul]; rfl
theorem pow_le {a b : Nat} (h : a ≤ b) : (256 : Int) ^ a ≤ 256 ^ b := by
  have := Nat.pow_le_pow_right (n := 256) (by decide) h
  have := Int.ofNat_le.2 this
  rw [Int.natCast_pow, Int.natCast_pow] at this
  exact this
theorem p8 : (256 : Int) ^ 8 = 18446744073709551616 := by decide
theorem p7 : (256 : Int) ^ 7 = 72057594037927936 := by decide

theorem u64_lt {k : Nat} (hk : k ≤ 8) {m y : Int} (hm : 0 ≤ m ∧ m * 256 ^ k < 18446744073709551616) : m < 18446744073709551616 := by
  have : 1 ≤ (256 : Int) ^ k := Int.pow_pos (by decide)
  have := Int.mul_le_mul_of_nonneg_left this hm.1
  omega
/-- What both leave. -/
def left (out : List Int) : Option (List Int × List Int) → (List Int × List Int × Bool) ⊕ (List Int × List Int)
  | none => .inl ([], [], false)
  | some p => .inr (p.2, out ++ p.1)

theorem left_map (out : List Int) (x : Int) (o : Option (List Int × List Int)) : left (out ++ [x]) o = left out (o.map fun p => (x :: p.1, p.2)) := by
  cases o <;> simp [left]

def ans (o : Option (List Int × List Int)) : List Int × List Int × Bool := match o with
  | none => ([], [], false)
  | some p => (p.1, p.2, true)

/-- The lowest bytes of a number, the highest first. -/
def be : Nat → Int → List Int
  | 0, _ => []
  | s + 1, v => be s (v / 256) ++ [v % 256]
theorem be_len : ∀ (s : Nat) (v : Int), (be s v).length = s
  | 0, _ => rfl
  | s + 1, v => by simp [be, be_len s]
theorem be_cons : ∀ (s : Nat) (v : Int), be (s + 1) v = (v / 256 ^ s % 256) :: be s v
  | 0, v => by simp [be]
  | s + 1, v => by
    rw [be, be_cons s (v / 256)]
    have : v / 256 / 256 ^ s = v / 256 ^ (s + 1) := by
      rw [Int.ediv_ediv_of_nonneg (by decide), Int.pow_succ, Int.mul_comm]
    rw [this]
    rfl
def fieldB (f : Int × Int) : List Int := if 1 ≤ f.1 ∧ f.1 ≤ 8 then be f.1.toNat f.2 else []
def enc (l : List (Int × Int)) : List Int := l.flatMap fieldB
theorem fieldB_len (f : Int × Int) : (fieldB f).length ≤ 8 := by
  unfold fieldB; split
  · rw [be_len]; omega
  · simp
theorem enc_len (l : List (Int × Int)) : (enc l).length ≤ 8 * l.length := by
  induction l with
  | nil => simp [enc]
  | cons f l ih => simp only [enc, List.flatMap_cons, List.length_append, List.length_cons] at ih ⊢; have := fieldB_len f; omega
theorem puts1 (t11 : List (Int × Int)) (t12 t13 f0 v : Int) (hv : 0 ≤ v) : ∀ (s : Nat) (out : List Int), s ≤ 8 → out.length + s ≤ 300000 →
    Ev (fun n => f78_pack_Put_L7 n out ((s : Int) - 1) t11 t12 t13 f0 v) (fun r => r = (out ++ be s v, t11, t12, t13))
  | 0, out, hs, hl => by
    apply Ev.succ
    simp only [f78_pack_Put_L7]
    exact Ev.neg (by simp) (Ev.some (by simp [be]))
  | s + 1, out, hs, hl => by
    apply Ev.succ
    simp only [f78_pack_Put_L7]
    have e : ((s + 1 : Nat) : Int) - 1 = s := by omega
    rw [e, i64_id (show -9223372036854775808 ≤ 8 * (s : Int) by omega) (by omega), i64_id (show -9223372036854775808 ≤ (s : Int) - 1 by omega) (by omega)]
    have e2 : min (8 * (s : Int)).toNat (IntKind.bits .u64) = 8 * s := by simp [IntKind.bits]; omega
    have e3 : IntKind.wrap .u8 (Int.fdiv v (2 ^ (8 * s))) = v / 256 ^ s % 256 := by rw [pow256, fdiv_e (Int.pow_nonneg (by decide)), w_u8]
    rw [e2, e3]
    refine Ev.pos (by simp) (Ev.guard (by omega) (Ev.guard (by simp [maxLen]; omega) ?_))
    refine (puts1 t11 t12 t13 f0 v hv s _ (by omega) (by simp; omega)).mono ?_
    rintro _ rfl
    rw [be_cons]; simp

theorem puts (l : List (Int × Int)) (hl : l.length ≤ 200) (hv : ∀ f ∈ l, 0 ≤ f.2) : ∀ (k i : Nat) (out : List Int), i + k = l.length → out.length ≤ 150000 + 8 * i →
    Ev (fun n => f78_pack_Put_L3 n out l ((l.length : Nat) : Int) i) (fun r => r = out ++ enc (l.drop i))
  | 0, i, out, h, ho => by
    apply Ev.succ
    simp only [f78_pack_Put_L3]
    exact Ev.neg (by simp; omega) (Ev.some (by rw [List.drop_eq_nil_of_le (by omega)]; simp [enc]))
  | k + 1, i, out, h, ho => by
    apply Ev.succ
    simp only [f78_pack_Put_L3]
    have hi : i < l.length := by omega
    have hf := hv _ (getD_mem hi (0, 0))
    rw [drop_cons hi (0, 0), Int.toNat_natCast]
    generalize l.getD i (0, 0) = f at hf
    obtain ⟨s, v⟩ := f
    dsimp only at hf ⊢
    have hfl := fieldB_len (s, v)
    have ih := fun (out' : List Int) ho' => puts l hl hv k (i + 1) out' (by omega) ho'
    have e : enc ((s, v) :: l.drop (i + 1)) = fieldB (s, v) ++ enc (l.drop (i + 1)) := by simp [enc]
    rw [e, i64_id (show -9223372036854775808 ≤ (i : Int) + 1 by omega) (by omega), show (i : Int) + 1 = ((i + 1 : Nat) : Int) by omega]
    refine Ev.pos (by simp; omega) (Ev.guard (by omega) (Ev.ite (fun h1 => ?_) (fun h1 => Ev.ite (fun h2 => ?_) (fun h2 => ?_))))
    · simp only [decide_eq_true_eq] at h1
      refine (ih out (by omega)).mono ?_
      rintro _ rfl
      rw [fieldB, if_neg (by simp; omega)]; rfl
    · simp only [decide_eq_true_eq] at h1 h2
      refine (ih out (by omega)).mono ?_
      rintro _ rfl
      rw [fieldB, if_neg (by simp; omega)]; rfl
    · simp only [decide_eq_true_eq] at h1 h2
      have := puts1 l ((l.length : Nat) : Int) i s v hf s.toNat out (by omega) (by omega)
      rw [show ((s.toNat : Nat) : Int) = s by omega] at this
      rw [i64_id (show -9223372036854775808 ≤ s - 1 by omega) (by omega)]
      refine Ev.bind this ?_
      rintro _ rfl
      dsimp only
      have e4 : fieldB (s, v) = be s.toNat v := by rw [fieldB, if_pos (by simp; omega)]
      rw [i64_id (show -9223372036854775808 ≤ (i : Int) + 1 by omega) (by omega), show (i : Int) + 1 = ((i + 1 : Nat) : Int) by omega]
      refine (ih (out ++ be s.toNat v) (by rw [List.length_append, be_len]; omega)).mono ?_
      rintro _ rfl
      rw [e4, List.append_assoc]

theorem put_is (b : List Int) (l : List (Int × Int)) (hb : b.length ≤ 100000) (hl : l.length ≤ 200) (hv : ∀ f ∈ l, 0 ≤ f.2) : Ev (fun n => f78_pack_Put n b l) (fun r => r = b ++ enc l) := by
  simp only [f78_pack_Put]
  refine Ev.guard (by simp [maxLen]; omega) (Ev.bind (puts l hl hv l.length 0 b (by omega) (by omega)) ?_)
  rintro _ rfl
  exact Ev.some rfl

abbrev U32 (x : Int) : Prop := 0 ≤ x ∧ x < 4294967296
abbrev U8 (x : Int) : Prop := 0 ≤ x ∧ x < 256
theorem be_bytes : ∀ (s : Nat) (v : Int), Bytes (be s v)
  | 0, _ => Bytes.nil
  | s + 1, v => (be_bytes s (v / 256)).append (Bytes.cons (by omega) Bytes.nil)
theorem be1 {x : Int} (h : U8 x) : be 1 x = [x] := by simp [be]; omega
theorem enc_cons (s : Int) (v : Int) (l : List (Int × Int)) : enc ((s, v) :: l) = fieldB (s, v) ++ enc l := by simp [enc]
theorem f1 (v : Int) : fieldB (1, v) = be 1 v := rfl
theorem f4 (v : Int) : fieldB (4, v) = be 4 v := rfl
theorem p1 : (256 : Int) ^ 1 = 256 := by decide
theorem p4 : (256 : Int) ^ 4 = 4294967296 := by decide
end Go.Proofs.YtjoibacjpapncaaF40b
