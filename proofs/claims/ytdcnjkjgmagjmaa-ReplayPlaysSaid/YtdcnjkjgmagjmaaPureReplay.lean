/- REPLAY: four words of marks as a row of 256 marks; what a window lets through: of the functions that text F41 prints. Conditions: none. -/
import Derived.Test.YtdcnjkjgmagjmaaF41
import Derived.Test.YtdcnjkjgmagjmaaZedPb
namespace Go.Proofs.YtdcnjkjgmagjmaaF41
open Go Zed
set_option linter.unusedVariables false
set_option linter.unusedSimpArgs false

/-! Bits. -/
theorem and_nat (a b : Nat) (ha : a < 2 ^ 64) (hb : b < 2 ^ 64) : bits .and .u64 (a : Int) (b : Int) = ((a &&& b : Nat) : Int) := (bits_nat .u64 64 (by decide) wraps_u64 a b ha hb).1
theorem or_nat (a b : Nat) (ha : a < 2 ^ 64) (hb : b < 2 ^ 64) : bits .or .u64 (a : Int) (b : Int) = ((a ||| b : Nat) : Int) := (bits_nat .u64 64 (by decide) wraps_u64 a b ha hb).2
theorem andNot_nat (a b : Nat) (ha : a < 2 ^ 64) (hb : b < 2 ^ 64) : ∃ c : Nat, c < 2 ^ 64 ∧ bits .andNot .u64 (a : Int) (b : Int) = (c : Int) ∧ ∀ j, c.testBit j = (a.testBit j && !b.testBit j) := by
  refine ⟨(BitVec.ofNat 64 a &&& ~~~ BitVec.ofNat 64 b).toNat, BitVec.isLt _, ?_, fun j => ?_⟩
  · show IntKind.u64.wrap ((BitVec.ofInt 64 (a : Int) &&& ~~~ BitVec.ofInt 64 (b : Int)).toNat : Int) = _
    rw [BitVec.ofInt_natCast, BitVec.ofInt_natCast]
    have := (BitVec.ofNat 64 a &&& ~~~ BitVec.ofNat 64 b).isLt
    rw [w_u64]; omega
  · rw [← BitVec.getLsbD, BitVec.getLsbD_and, BitVec.getLsbD_not, BitVec.getLsbD_ofNat, BitVec.getLsbD_ofNat]
    by_cases hj : j < 64
    · simp [hj]
    · have ha' : a.testBit j = false := Nat.testBit_lt_two_pow (Nat.lt_of_lt_of_le ha (Nat.pow_le_pow_right (by decide) (by omega)))
      simp [hj, ha']
theorem one_bit (k : Nat) (hk : k < 64) : IntKind.wrap .u64 (1 * 2 ^ k) = ((2 ^ k : Nat) : Int) := by
  have h1 : (2 : Nat) ^ k < 2 ^ 64 := Nat.pow_lt_pow_right (by decide) hk
  have h2 : (1 : Int) * 2 ^ k = ((2 ^ k : Nat) : Int) := by rw [Int.one_mul, Int.natCast_pow]; rfl
  rw [h2, w_u64]
  generalize (2 : Nat) ^ k = p at h1
  omega
theorem and_pow_zero (a k : Nat) : (a &&& 2 ^ k = 0) ↔ a.testBit k = false := by
  constructor
  · intro h
    have := congrArg (fun n => Nat.testBit n k) h
    simp only [Nat.testBit_and, Nat.testBit_two_pow_self, Bool.and_true, Nat.zero_testBit] at this
    exact this
  · intro h
    apply Nat.eq_of_testBit_eq
    intro j
    rw [Nat.testBit_and, Nat.testBit_two_pow, Nat.zero_testBit]
    by_cases hj : k = j
    · subst hj; simp [h]
    · simp [hj]

/-! Four words as a row of marks. -/
abbrev Ws := Int × Int × Int × Int
def wat (w : Ws) (i : Nat) : Int := ([w.1, w.2.1, w.2.2.1, w.2.2.2] : List Int).getD i 0
def Rep (w : Ws) (f : Nat → Bool) : Prop := ∀ i, i < 4 → ∃ a : Nat, a < 2 ^ 64 ∧ wat w i = (a : Int) ∧ ∀ j, j < 64 → a.testBit j = f (i * 64 + j)
def upd (f : Nat → Bool) (k : Nat) (b : Bool) : Nat → Bool := fun j => if j = k then b else f j
def wset (w : Ws) (i : Nat) (x : Int) : Ws := (if 0 = i then x else w.1, if 1 = i then x else w.2.1, if 2 = i then x else w.2.2.1, if 3 = i then x else w.2.2.2)
theorem wat_wset (w : Ws) (i j : Nat) (x : Int) (hj : j < 4) : wat (wset w i x) j = if j = i then x else wat w j := by
  have h4 : j = 0 ∨ j = 1 ∨ j = 2 ∨ j = 3 := by omega
  rcases h4 with rfl | rfl | rfl | rfl <;> rfl
theorem at_is (n : Int) (h : 0 ≤ n) : f72_replay_at n = some ((((n.toNat % 256 / 64 : Nat) : Int)), ((2 ^ (n.toNat % 64) : Nat) : Int)) := by
  obtain ⟨m, rfl⟩ := Int.eq_ofNat_of_zero_le h
  unfold f72_replay_at
  rw [tmod_e (show (0 : Int) ≤ (m : Int) by omega), tmod_e (by omega), tdiv_e (by omega)]
  have e1 : (m : Int) % 256 % 64 = ((m % 64 : Nat) : Int) := by omega
  have e2 : (m : Int) % 256 / 64 = ((m % 256 / 64 : Nat) : Int) := by omega
  rw [e1, e2, Int.toNat_natCast, Int.toNat_natCast, if_pos (by omega), u64_id (by omega) (by omega), i64_id (by omega) (by omega)]
  have hb : IntKind.bits .u64 = 64 := rfl
  rw [hb, Nat.min_eq_left (by omega), one_bit _ (by omega)]
theorem get_bit {w : Ws} {f : Nat → Bool} (h : Rep w f) (n : Nat) : ((bits .and .u64 (wat w (n % 256 / 64)) ((2 ^ (n % 64) : Nat) : Int) : Int) == 0) = !f (n % 256) := by
  obtain ⟨a, ha, he, hb⟩ := h (n % 256 / 64) (by omega)
  have hp : (2 : Nat) ^ (n % 64) < 2 ^ 64 := Nat.pow_lt_pow_right (by decide) (by omega)
  rw [he, and_nat a _ ha hp]
  have hk := hb (n % 64) (by omega)
  rw [show n % 256 / 64 * 64 + n % 64 = n % 256 by omega] at hk
  rw [← hk, Bool.eq_iff_iff, beq_iff_eq]
  have := and_pow_zero a (n % 64)
  rw [Bool.not_eq_true', ← this]
  omega
theorem set_bit {w : Ws} {f : Nat → Bool} (h : Rep w f) (n : Nat) : Rep (wset w (n % 256 / 64) (bits .or .u64 (wat w (n % 256 / 64)) ((2 ^ (n % 64) : Nat) : Int))) (upd f (n % 256) true) := by
  intro i hi
  obtain ⟨a, ha, he, hb⟩ := h i hi
  rw [wat_wset _ _ _ _ hi]
  by_cases hin : i = n % 256 / 64
  · rw [if_pos hin, ← hin, he]
    have hp : (2 : Nat) ^ (n % 64) < 2 ^ 64 := Nat.pow_lt_pow_right (by decide) (by omega)
    refine ⟨a ||| 2 ^ (n % 64), Nat.or_lt_two_pow ha hp, or_nat a _ ha hp, fun j hj => ?_⟩
    rw [Nat.testBit_or, Nat.testBit_two_pow, hb j hj]
    unfold upd
    by_cases hjn : n % 64 = j
    · rw [if_pos (by omega)]; simp [hjn]
    · rw [if_neg (by omega)]; simp [hjn]
  · rw [if_neg hin]
    refine ⟨a, ha, he, fun j hj => ?_⟩
    unfold upd
    rw [if_neg (by omega)]; exact hb j hj
theorem clr_bit {w : Ws} {f : Nat → Bool} (h : Rep w f) (n : Nat) : Rep (wset w (n % 256 / 64) (bits .andNot .u64 (wat w (n % 256 / 64)) ((2 ^ (n % 64) : Nat) : Int))) (upd f (n % 256) false) := by
  intro i hi
  obtain ⟨a, ha, he, hb⟩ := h i hi
  rw [wat_wset _ _ _ _ hi]
  by_cases hin : i = n % 256 / 64
  · rw [if_pos hin, ← hin, he]
    have hp : (2 : Nat) ^ (n % 64) < 2 ^ 64 := Nat.pow_lt_pow_right (by decide) (by omega)
    obtain ⟨c, h1, h2, h3⟩ := andNot_nat a _ ha hp
    refine ⟨c, h1, h2, fun j hj => ?_⟩
    rw [h3, Nat.testBit_two_pow, hb j hj]
    unfold upd
    by_cases hjn : n % 64 = j
    · rw [if_pos (by omega)]; simp [hjn]
    · rw [if_neg (by omega)]; simp [hjn]
  · rw [if_neg hin]
    refine ⟨a, ha, he, fun j hj => ?_⟩
    unfold upd
    rw [if_neg (by omega)]; exact hb j hj
theorem rep_zero : Rep (0, 0, 0, 0) (fun _ => false) := by
  intro i hi
  refine ⟨0, by decide, ?_, fun j hj => by simp⟩
  have h4 : i = 0 ∨ i = 1 ∨ i = 2 ∨ i = 3 := by omega
  rcases h4 with rfl | rfl | rfl | rfl <;> rfl

/-! A window: whether anything came, the greatest one, the marks; and all that were let through. -/
structure J (S : List Int) (any : Bool) (top : Nat) (w : Ws) : Prop where
  none : any = false → S = [] ∧ top = 0
  mem : any = true → (top : Int) ∈ S
  le : ∀ s ∈ S, 0 ≤ s ∧ s ≤ (top : Int)
  tlt : top < 18446744073709551616
  marks : ∃ f, Rep w f ∧ (any = true → (∀ n, n ≤ top → top < n + 256 → (f (n % 256) = true ↔ (n : Int) ∈ S)) ∧ ∀ k, top < k → k < 256 → f k = false)
def fresh (S : List Int) (any : Bool) (top : Nat) (n : Int) : Bool := !any || decide (n > (top : Int)) || (decide ((top : Int) < n + 256) && !(decide (n ∈ S)))
abbrev St7 := Bool × Bool × Int × Int × Int × Int × Int

theorem fresh_is {S : List Int} {any : Bool} {top : Nat} {w : Ws} (h : J S any top w) {n : Int} (hn : 0 ≤ n) : f34_replay_Window_Fresh n any (top : Int) w.1 w.2.1 w.2.2.1 w.2.2.2 = some (fresh S any top n, any, (top : Int), w.1, w.2.1, w.2.2.1, w.2.2.2) := by
  unfold f34_replay_Window_Fresh fresh
  cases any with
  | false => rfl
  | true =>
    rw [if_neg (by decide)]
    have ht := h.tlt
    by_cases h1 : n > (top : Int)
    · rw [if_pos (decide_eq_true h1), decide_eq_true h1]; rfl
    · rw [if_neg (by simp; omega), decide_eq_false h1, u64_id (by omega) (by omega)]
      by_cases h2 : (top : Int) - n ≥ 256
      · rw [if_pos (decide_eq_true h2), decide_eq_false (show ¬ (top : Int) < n + 256 by omega)]; rfl
      · rw [if_neg (by simp; omega), decide_eq_true (show (top : Int) < n + 256 by omega), at_is n hn, Option.bind_some]
        obtain ⟨m, rfl⟩ := Int.eq_ofNat_of_zero_le hn
        rw [Int.toNat_natCast]
        rw [if_pos (by omega), Int.toNat_natCast]
        obtain ⟨f, hr, hm⟩ := h.marks
        have hg := get_bit hr m
        unfold wat at hg
        simp only [hg]
        have hmk := (hm rfl).1 m (by omega) (by omega)
        have : (!f (m % 256)) = !(decide ((m : Int) ∈ S)) := by
          congr 1
          rw [Bool.eq_iff_iff, hmk, decide_eq_true_eq]
        rw [this]; rfl

/-- The marks of those that fall behind are taken away. -/
theorem moveLoop (n : Nat) (hn : n < 18446744073709551616) (any : Bool) : ∀ (d t : Nat), t + d = n → ∀ (w : Ws) (f : Nat → Bool), Rep w f → ∃ w' f', Rep w' f' ∧ (∀ k, k < 256 → f' k = true → f k = true) ∧ (∀ m, t < m → m ≤ n → f' (m % 256) = false) ∧ (∀ k, k < 256 → (∀ m, t < m → m ≤ n → m % 256 ≠ k) → f' k = f k) ∧
    Ev (fun q => f71_replay_Window_move_L2 q (n : Int) any (t : Int) w.1 w.2.1 w.2.2.1 w.2.2.2) (fun r => r = (any, (n : Int), w'.1, w'.2.1, w'.2.2.1, w'.2.2.2))
  | 0, t, htd, w, f, hr => by
    refine ⟨w, f, hr, fun _ _ h => h, fun m h1 h2 => by omega, fun _ _ _ => rfl, ?_⟩
    apply Ev.succ
    simp only [f71_replay_Window_move_L2]
    refine Ev.neg (by simp; omega) (Ev.some ?_)
    rw [show (t : Int) = (n : Int) by omega]
  | d + 1, t, htd, w, f, hr => by
    have e1 : IntKind.wrap .u64 ((t : Int) + 1) = ((t + 1 : Nat) : Int) := by rw [u64_id] <;> omega
    have hc := clr_bit hr (t + 1)
    obtain ⟨w', f', i1, i2, i3, i4, i5⟩ := moveLoop n hn any d (t + 1) (by omega) _ _ hc
    refine ⟨w', f', i1, fun k hk h => ?_, fun m h1 h2 => ?_, fun k hk h => ?_, ?_⟩
    · have := i2 k hk h
      unfold upd at this
      split at this
      · cases this
      · exact this
    · by_cases hm : m = t + 1
      · subst hm
        cases hf : f' ((t + 1) % 256) with
        | false => rfl
        | true =>
          have := i2 _ (by omega) hf
          unfold upd at this
          rw [if_pos rfl] at this
          cases this
      · exact i3 m (by omega) h2
    · rw [i4 k hk (fun m h1 h2 => h m (by omega) h2)]
      unfold upd
      rw [if_neg (fun e => h (t + 1) (by omega) (by omega) e.symm)]
    · apply Ev.succ
      simp only [f71_replay_Window_move_L2]
      rw [e1]
      refine Ev.pos (by simp; omega) ?_
      refine Ev.bind (Ev.of (at_is ((t + 1 : Nat) : Int) (by omega)) rfl) ?_
      rintro _ rfl
      rw [Int.toNat_natCast]
      refine Ev.guard (by omega) (Ev.guard (by omega) ?_)
      rw [Int.toNat_natCast]
      exact i5

theorem take_is {S : List Int} {any : Bool} {top : Nat} {w : Ws} (h : J S any top w) {n : Int} (hn : 0 ≤ n ∧ n < 18446744073709551616) :
    ∃ any' top' w', J (if fresh S any top n = true then S ++ [n] else S) any' top' w' ∧ Ev (fun q => f26_replay_Window_Take q n any (top : Int) w.1 w.2.1 w.2.2.1 w.2.2.2) (fun r => r = (fresh S any top n, any', (top' : Int), w'.1, w'.2.1, w'.2.2.1, w'.2.2.2)) := by
  obtain ⟨m, rfl⟩ := Int.eq_ofNat_of_zero_le hn.1
  obtain ⟨f, hr, hm⟩ := h.marks
  have ht := h.tlt
  have hfr := fresh_is h (n := (m : Int)) (by omega)
  -- behind a move
  have fin : ∀ (w1 : Ws) (f1 : Nat → Bool), Rep w1 f1 → (∀ k, k < 256 → f1 k = true → ∃ x, x ∈ S ∧ x < (m : Int) ∧ (m : Int) < x + 256 ∧ x.toNat % 256 = k) → (∀ x ∈ S, (m : Int) < x + 256 → f1 (x.toNat % 256) = true) → (∀ s ∈ S, s < (m : Int)) →
      J (S ++ [(m : Int)]) true m (wset w1 (m % 256 / 64) (bits .or .u64 (wat w1 (m % 256 / 64)) ((2 ^ (m % 64) : Nat) : Int))) := by
    intro w1 f1 hr1 h1 h2 h3
    refine ⟨fun hc => (by cases hc), fun _ => by simp, fun s hs => ?_, by omega, upd f1 (m % 256) true, set_bit hr1 m, fun _ => ⟨fun x hx hx2 => ?_, fun k hk hk2 => ?_⟩⟩
    · rcases List.mem_append.1 hs with hs | hs
      · exact ⟨(h.le s hs).1, by have := h3 s hs; omega⟩
      · simp at hs; omega
    · unfold upd
      by_cases hxm : x % 256 = m % 256
      · have : x = m := by omega
        subst this
        simp
      · rw [if_neg hxm]
        constructor
        · intro hf
          obtain ⟨y, y1, y2, y3, y4⟩ := h1 (x % 256) (by omega) hf
          have := (h.le y y1).1
          have : y = (x : Int) := by omega
          exact List.mem_append_left _ (this ▸ y1)
        · intro hf
          rcases List.mem_append.1 hf with hf | hf
          · have := h2 (x : Int) hf (by omega)
            rw [Int.toNat_natCast] at this; exact this
          · simp at hf; omega
    · unfold upd
      rw [if_neg (by omega)]
      cases hf : f1 k with
      | false => rfl
      | true =>
        obtain ⟨y, y1, y2, y3, y4⟩ := h1 k hk2 hf
        have := (h.le y y1).1
        omega
  by_cases hfs : fresh S any top (m : Int) = true
  · rw [if_pos hfs]
    rw [hfs] at hfr ⊢
    cases any with
    | false =>
      obtain ⟨hS, h0⟩ := h.none rfl
      subst hS
      refine ⟨true, m, _, fin (0, 0, 0, 0) _ rep_zero (fun k _ hk => (by cases hk)) (fun x hx => by cases hx) (fun s hs => by cases hs), ?_⟩
      simp only [f26_replay_Window_Take]
      refine Ev.bind (Ev.of hfr rfl) ?_
      rintro _ rfl
      refine Ev.neg (by simp) (Ev.pos rfl ?_)
      refine Ev.bind (P := fun r => r = (true, (m : Int), 0, 0, 0, 0)) (Ev.pos rfl (Ev.some rfl)) ?_
      rintro _ rfl
      refine Ev.bind (Ev.of (at_is (m : Int) (by omega)) rfl) ?_
      rintro _ rfl
      rw [Int.toNat_natCast]
      refine Ev.guard (by omega) (Ev.guard (by omega) (Ev.some ?_))
      rw [Int.toNat_natCast]
      rfl
    | true =>
      obtain ⟨hm1, hm2⟩ := hm rfl
      by_cases hgt : (m : Int) > (top : Int)
      · -- a move
        have mv : ∃ w1 f1, Rep w1 f1 ∧ (∀ k, k < 256 → f1 k = true → ∃ x, x ∈ S ∧ x < (m : Int) ∧ (m : Int) < x + 256 ∧ x.toNat % 256 = k) ∧ (∀ x ∈ S, (m : Int) < x + 256 → f1 (x.toNat % 256) = true) ∧
            Ev (fun q => f71_replay_Window_move q (m : Int) true (top : Int) w.1 w.2.1 w.2.2.1 w.2.2.2) (fun r => r = (true, (m : Int), w1.1, w1.2.1, w1.2.2.1, w1.2.2.2)) := by
          simp only [f71_replay_Window_move]
          rw [u64_id (show (0 : Int) ≤ (m : Int) - (top : Int) by omega) (by omega)]
          by_cases hfar : (m : Int) - (top : Int) ≥ 256
          · refine ⟨(0, 0, 0, 0), _, rep_zero, fun k _ hk => (by cases hk), fun x hx h2 => ?_, Ev.neg (by simp) (Ev.pos (decide_eq_true hfar) (Ev.some rfl))⟩
            have := (h.le x hx).2
            omega
          · obtain ⟨w', f', i1, i2, i3, i4, i5⟩ := moveLoop m (by omega) true (m - top) top (by omega) w f hr
            refine ⟨w', f', i1, fun k hk hf => ?_, fun x hx h2 => ?_, Ev.neg (by simp) (Ev.neg (by simp; omega) ?_)⟩
            · have hfk := i2 k hk hf
              -- the number of that mark
              have hk2 : ∀ x, top < x → x ≤ m → x % 256 ≠ k := fun x h1 h2 e => by have := i3 x h1 h2; rw [e, hf] at this; cases this
              by_cases hkt : k ≤ top
              · -- the greatest number not above top that is k modulo 256
                have hx : ∃ x, x ≤ top ∧ top < x + 256 ∧ x % 256 = k := ⟨top - (top - k) % 256, by omega, by omega, by omega⟩
                obtain ⟨x, x1, x2, x3⟩ := hx
                have hin := (hm1 x x1 x2).1 (by rw [x3]; exact hfk)
                have hmx : m < x + 256 := by
                  rcases Nat.lt_or_ge m (x + 256) with q | q
                  · exact q
                  · exact absurd (show (x + 256) % 256 = k by omega) (hk2 (x + 256) (by omega) q)
                exact ⟨(x : Int), hin, by omega, by omega, by rw [Int.toNat_natCast]; exact x3⟩
              · have := hm2 k (by omega) hk
                rw [this] at hfk; cases hfk
            · obtain ⟨y, rfl⟩ := Int.eq_ofNat_of_zero_le (h.le x hx).1
              rw [Int.toNat_natCast]
              have hle := (h.le _ hx).2
              rw [i4 (y % 256) (by omega) (fun z h3 h4 => by omega)]
              exact (hm1 y (by omega) (by omega)).2 hx
            · refine Ev.bind i5 ?_
              rintro _ rfl
              exact Ev.some rfl
        obtain ⟨w1, f1, r1, r2, r3, r4⟩ := mv
        refine ⟨true, m, _, fin w1 f1 r1 r2 r3 (fun s hs => by have := (h.le s hs).2; omega), ?_⟩
        simp only [f26_replay_Window_Take]
        refine Ev.bind (Ev.of hfr rfl) ?_
        rintro _ rfl
        refine Ev.neg (by simp) (Ev.neg (by simp) (Ev.pos (decide_eq_true hgt) ?_))
        refine Ev.bind r4 ?_
        rintro _ rfl
        refine Ev.bind (Ev.of (at_is (m : Int) (by omega)) rfl) ?_
        rintro _ rfl
        rw [Int.toNat_natCast]
        refine Ev.guard (by omega) (Ev.guard (by omega) (Ev.some ?_))
        rw [Int.toNat_natCast]
        rfl
      · -- behind the greatest
        have hf2 := hfs
        unfold fresh at hf2
        rw [decide_eq_false hgt] at hf2
        simp only [Bool.not_true, Bool.false_or, Bool.and_eq_true, decide_eq_true_eq, Bool.not_eq_true', decide_eq_false_iff_not] at hf2
        refine ⟨true, top, wset w (m % 256 / 64) (bits .or .u64 (wat w (m % 256 / 64)) ((2 ^ (m % 64) : Nat) : Int)), ?_, ?_⟩
        · refine ⟨fun hc => (by cases hc), fun _ => List.mem_append_left _ (h.mem rfl), fun s hs => ?_, ht, upd f (m % 256) true, set_bit hr m, fun _ => ⟨fun x hx hx2 => ?_, fun k hk hk2 => ?_⟩⟩
          · rcases List.mem_append.1 hs with hs | hs
            · exact h.le s hs
            · simp at hs; omega
          · unfold upd
            by_cases hxm : x % 256 = m % 256
            · have : x = m := by omega
              subst this
              simp
            · rw [if_neg hxm, hm1 x hx hx2]
              constructor
              · exact fun q => List.mem_append_left _ q
              · intro q
                rcases List.mem_append.1 q with q | q
                · exact q
                · simp at q; omega
          · unfold upd
            rw [if_neg (by omega)]; exact hm2 k hk hk2
        · simp only [f26_replay_Window_Take]
          refine Ev.bind (Ev.of hfr rfl) ?_
          rintro _ rfl
          refine Ev.neg (by simp) (Ev.neg (by simp) (Ev.neg (by simp; omega) ?_))
          refine Ev.bind (Ev.of (at_is (m : Int) (by omega)) rfl) ?_
          rintro _ rfl
          rw [Int.toNat_natCast]
          refine Ev.guard (by omega) (Ev.guard (by omega) (Ev.some ?_))
          rw [Int.toNat_natCast]
          rfl
  · rw [if_neg hfs]
    have hfs2 : fresh S any top (m : Int) = false := by simpa using hfs
    rw [hfs2] at hfr ⊢
    refine ⟨any, top, w, h, ?_⟩
    simp only [f26_replay_Window_Take]
    refine Ev.bind (Ev.of hfr rfl) ?_
    rintro _ rfl
    exact Ev.pos rfl (Ev.some rfl)
end Go.Proofs.YtdcnjkjgmagjmaaF41
