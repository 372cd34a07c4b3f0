/- What functions of this text leave, in plain numbers: proved for another text, and for this one by the same steps. Conditions: none. -/
import Derived.Test.YtjoibacjpapncaaF31b
import Derived.Test.YtjoibacjpapncaaZedPb
namespace Go.Proofs.YtjoibacjpapncaaF31b
open Go Zed
set_option linter.unusedVariables false
set_option linter.unusedSimpArgs false

def st (x c : Int) : Int := (x * 256 + c) % 18446744073709551616
def num (l : List Int) : Int := l.foldl st 0
def go (b : List Int) : List Int → Option (List Int × List Int)
  | [] => some ([], b)
  | s :: r => if 1 ≤ s ∧ s ≤ 8 ∧ s ≤ b.length then (go (b.drop s.toNat) r).map fun p => (num (b.take s.toNat) :: p.1, p.2) else none
/-- What both leave. -/
def left (out : List Int) : Option (List Int × List Int) → (List Int × List Int × Bool) ⊕ (List Int × List Int)
  | none => .inl ([], [], false)
  | some p => .inr (p.2, out ++ p.1)

theorem left_map (out : List Int) (x : Int) (o : Option (List Int × List Int)) : left (out ++ [x]) o = left out (o.map fun p => (x :: p.1, p.2)) := by
  cases o <;> simp [left]

def ans (o : Option (List Int × List Int)) : List Int × List Int × Bool := match o with
  | none => ([], [], false)
  | some p => (p.1, p.2, true)

theorem go_len : ∀ (l b : List Int) (p : List Int × List Int), go b l = some p → p.2.length ≤ b.length ∧ p.1.length = l.length
  | [], b, p, h => by simp [go] at h; subst h; simp
  | s :: r, b, p, h => by
    simp only [go] at h
    split at h
    · obtain ⟨q, h1, rfl⟩ := Option.map_eq_some_iff.1 h
      have := go_len r _ q h1
      simp at this ⊢; omega
    · cases h

/-- The lowest bytes of a number, the highest first. -/
def be : Nat → Int → List Int
  | 0, _ => []
  | s + 1, v => be s (v / 256) ++ [v % 256]
theorem be_len : ∀ (s : Nat) (v : Int), (be s v).length = s
  | 0, _ => rfl
  | s + 1, v => by simp [be, be_len s]
theorem be_cons : ∀ (s : Nat) (v : Int), be (s + 1) v = (v / 256 ^ s % 256) :: be s v
  | 0, v => by simp [be]
  | s + 1, v => by
    rw [be, be_cons s (v / 256)]
    have : v / 256 / 256 ^ s = v / 256 ^ (s + 1) := by
      rw [Int.ediv_ediv_of_nonneg (by decide), Int.pow_succ, Int.mul_comm]
    rw [this]
    rfl
def fieldB (f : Int × Int) : List Int := if 1 ≤ f.1 ∧ f.1 ≤ 8 then be f.1.toNat f.2 else []
def enc (l : List (Int × Int)) : List Int := l.flatMap fieldB
theorem fieldB_len (f : Int × Int) : (fieldB f).length ≤ 8 := by
  unfold fieldB; split
  · rw [be_len]; omega
  · simp
theorem enc_len (l : List (Int × Int)) : (enc l).length ≤ 8 * l.length := by
  induction l with
  | nil => simp [enc]
  | cons f l ih => simp only [enc, List.flatMap_cons, List.length_append, List.length_cons] at ih ⊢; have := fieldB_len f; omega
theorem pow256 (s : Nat) : (2 : Int) ^ (8 * s) = 256 ^ s := by rw [Int.pow_mul]; rfl

theorem puts1 (t11 : List (Int × Int)) (t12 t13 f0 v : Int) (hv : 0 ≤ v) : ∀ (s : Nat) (out : List Int), s ≤ 8 → out.length + s ≤ 300000 →
    Ev (fun n => f78_pack_Put_L7 n out ((s : Int) - 1) t11 t12 t13 f0 v) (fun r => r = (out ++ be s v, t11, t12, t13))
  | 0, out, hs, hl => by
    apply Ev.succ
    simp only [f78_pack_Put_L7]
    exact Ev.neg (by simp) (Ev.some (by simp [be]))
  | s + 1, out, hs, hl => by
    apply Ev.succ
    simp only [f78_pack_Put_L7]
    have e : ((s + 1 : Nat) : Int) - 1 = s := by omega
    rw [e, i64_id (show -9223372036854775808 ≤ 8 * (s : Int) by omega) (by omega), i64_id (show -9223372036854775808 ≤ (s : Int) - 1 by omega) (by omega)]
    have e2 : min (8 * (s : Int)).toNat (IntKind.bits .u64) = 8 * s := by simp [IntKind.bits]; omega
    have e3 : IntKind.wrap .u8 (Int.fdiv v (2 ^ (8 * s))) = v / 256 ^ s % 256 := by rw [pow256, fdiv_e (Int.pow_nonneg (by decide)), w_u8]
    rw [e2, e3]
    refine Ev.pos (by simp) (Ev.guard (by omega) (Ev.guard (by simp [maxLen]; omega) ?_))
    refine (puts1 t11 t12 t13 f0 v hv s _ (by omega) (by simp; omega)).mono ?_
    rintro _ rfl
    rw [be_cons]; simp

theorem puts (l : List (Int × Int)) (hl : l.length ≤ 200) (hv : ∀ f ∈ l, 0 ≤ f.2) : ∀ (k i : Nat) (out : List Int), i + k = l.length → out.length ≤ 150000 + 8 * i →
    Ev (fun n => f78_pack_Put_L3 n out l ((l.length : Nat) : Int) i) (fun r => r = out ++ enc (l.drop i))
  | 0, i, out, h, ho => by
    apply Ev.succ
    simp only [f78_pack_Put_L3]
    exact Ev.neg (by simp; omega) (Ev.some (by rw [List.drop_eq_nil_of_le (by omega)]; simp [enc]))
  | k + 1, i, out, h, ho => by
    apply Ev.succ
    simp only [f78_pack_Put_L3]
    have hi : i < l.length := by omega
    have hf := hv _ (getD_mem hi (0, 0))
    rw [drop_cons hi (0, 0), Int.toNat_natCast]
    generalize l.getD i (0, 0) = f at hf
    obtain ⟨s, v⟩ := f
    dsimp only at hf ⊢
    have hfl := fieldB_len (s, v)
    have ih := fun (out' : List Int) ho' => puts l hl hv k (i + 1) out' (by omega) ho'
    have e : enc ((s, v) :: l.drop (i + 1)) = fieldB (s, v) ++ enc (l.drop (i + 1)) := by simp [enc]
    rw [e, i64_id (show -9223372036854775808 ≤ (i : Int) + 1 by omega) (by omega), show (i : Int) + 1 = ((i + 1 : Nat) : Int) by omega]
    refine Ev.pos (by simp; omega) (Ev.guard (by omega) (Ev.ite (fun h1 => ?_) (fun h1 => Ev.ite (fun h2 => ?_) (fun h2 => ?_))))
    · simp only [decide_eq_true_eq] at h1
      refine (ih out (by omega)).mono ?_
      rintro _ rfl
      rw [fieldB, if_neg (by simp; omega)]; rfl
    · simp only [decide_eq_true_eq] at h1 h2
      refine (ih out (by omega)).mono ?_
      rintro _ rfl
      rw [fieldB, if_neg (by simp; omega)]; rfl
    · simp only [decide_eq_true_eq] at h1 h2
      have := puts1 l ((l.length : Nat) : Int) i s v hf s.toNat out (by omega) (by omega)
      rw [show ((s.toNat : Nat) : Int) = s by omega] at this
      rw [i64_id (show -9223372036854775808 ≤ s - 1 by omega) (by omega)]
      refine Ev.bind this ?_
      rintro _ rfl
      dsimp only
      have e4 : fieldB (s, v) = be s.toNat v := by rw [fieldB, if_pos (by simp; omega)]
      rw [i64_id (show -9223372036854775808 ≤ (i : Int) + 1 by omega) (by omega), show (i : Int) + 1 = ((i + 1 : Nat) : Int) by omega]
      refine (ih (out ++ be s.toNat v) (by rw [List.length_append, be_len]; omega)).mono ?_
      rintro _ rfl
      rw [e4, List.append_assoc]

theorem put_is (b : List Int) (l : List (Int × Int)) (hb : b.length ≤ 100000) (hl : l.length ≤ 200) (hv : ∀ f ∈ l, 0 ≤ f.2) : Ev (fun n => f78_pack_Put n b l) (fun r => r = b ++ enc l) := by
  simp only [f78_pack_Put]
  refine Ev.guard (by simp [maxLen]; omega) (Ev.bind (puts l hl hv l.length 0 b (by omega) (by omega)) ?_)
  rintro _ rfl
  exact Ev.some rfl

abbrev U32 (x : Int) : Prop := 0 ≤ x ∧ x < 4294967296
abbrev U8 (x : Int) : Prop := 0 ≤ x ∧ x < 256
theorem be_bytes : ∀ (s : Nat) (v : Int), Bytes (be s v)
  | 0, _ => Bytes.nil
  | s + 1, v => (be_bytes s (v / 256)).append (Bytes.cons (by omega) Bytes.nil)
theorem be1 {x : Int} (h : U8 x) : be 1 x = [x] := by simp [be]; omega
theorem enc_cons (s : Int) (v : Int) (l : List (Int × Int)) : enc ((s, v) :: l) = fieldB (s, v) ++ enc l := by simp [enc]
theorem f1 (v : Int) : fieldB (1, v) = be 1 v := rfl
theorem f4 (v : Int) : fieldB (4, v) = be 4 v := rfl
theorem num_in (l : List Int) (hl : l.length ≤ 8) (hb : Bytes l) : 0 ≤ num l ∧ num l < 256 ^ l.length := by
  have gen : ∀ (l : List Int) (x : Int), Bytes l → 0 ≤ x → (x + 1) * 256 ^ l.length ≤ 18446744073709551616 → 0 ≤ l.foldl st x ∧ l.foldl st x < (x + 1) * 256 ^ l.length := by
    intro l
    induction l with
    | nil => intro x _ h0 h1; simp at h1 ⊢; omega
    | cons c l ih =>
      intro x hb h0 h1
      have hc := hb.head
      rw [List.length_cons, Int.pow_succ, Int.mul_comm (256 ^ l.length) 256, ← Int.mul_assoc] at h1
      have hp : 1 ≤ (256 : Int) ^ l.length := Int.pow_pos (by decide)
      have hx : (x + 1) * 256 ≤ 18446744073709551616 := by
        have := Int.mul_le_mul_of_nonneg_left hp (show 0 ≤ (x + 1) * 256 by omega)
        omega
      have e : st x c = x * 256 + c := by unfold st; omega
      rw [List.foldl_cons, e]
      have hm : (x * 256 + c + 1) * 256 ^ l.length ≤ (x + 1) * 256 * 256 ^ l.length := Int.mul_le_mul_of_nonneg_right (by omega) (by omega)
      obtain ⟨i1, i2⟩ := ih (x * 256 + c) hb.tail (by omega) (by omega)
      refine ⟨i1, ?_⟩
      rw [List.length_cons, Int.pow_succ, Int.mul_comm (256 ^ l.length) 256, ← Int.mul_assoc]
      omega
  have hp : (256 : Int) ^ l.length ≤ 256 ^ 8 := by
    have := Nat.pow_le_pow_right (n := 256) (by decide) hl
    have := Int.ofNat_le.2 this
    rw [Int.natCast_pow, Int.natCast_pow] at this
    exact this
  have := gen l 0 hb (by omega) (by rw [show (256 : Int) ^ 8 = 18446744073709551616 by decide] at hp; omega)
  unfold num
  simpa using this

theorem go_bytes : ∀ (l b : List Int) (p : List Int × List Int), go b l = some p → Bytes b → Bytes p.2
  | [], b, p, h, hb => by cases h; exact hb
  | s :: l, b, p, h, hb => by
    simp only [go] at h
    split at h
    · obtain ⟨q, h1, rfl⟩ := Option.map_eq_some_iff.1 h
      exact go_bytes l _ q h1 (hb.drop _)
    · cases h
theorem num_be : ∀ (s : Nat) (v : Int), s ≤ 8 → 0 ≤ v ∧ v < 256 ^ s → num (be s v) = v
  | 0, v, _, h => by simp at h; simp [be, num]; omega
  | s + 1, v, hs, h => by
    rw [Int.pow_succ] at h
    have ih := num_be s (v / 256) (by omega) (by omega)
    have hp : (256 : Int) ^ (s + 1) ≤ 18446744073709551616 := by
      have := Nat.pow_le_pow_right (n := 256) (by decide) hs
      have := Int.ofNat_le.2 this
      rw [Int.natCast_pow, Int.natCast_pow] at this
      exact this
    rw [Int.pow_succ] at hp
    unfold num at ih ⊢
    rw [be, List.foldl_append, ih]
    simp only [List.foldl_cons, List.foldl_nil, st]
    omega
theorem be_num : ∀ (l : List Int), Bytes l → l.length ≤ 8 → be l.length (num l) = l := by
  have key : ∀ (s : Nat) (l : List Int), l.length = s → Bytes l → s ≤ 8 → be s (num l) = l := by
    intro s
    induction s with
    | zero => intro l h _ _; rw [List.eq_nil_of_length_eq_zero h]; rfl
    | succ s ih =>
      intro l h hb hs
      have hi : s < l.length := by omega
      have hsp : l = l.take s ++ [l.getD s 0] := by
        have := drop_cons hi 0
        rw [List.drop_eq_nil_of_le (show l.length ≤ s + 1 by omega)] at this
        rw [← this, List.take_append_drop]
      have hx := hb.get s
      have htl : (l.take s).length = s := by simp; omega
      have hin := num_in (l.take s) (by omega) (hb.take _)
      rw [htl] at hin
      have hp : (256 : Int) ^ (s + 1) ≤ 18446744073709551616 := by
        have := Nat.pow_le_pow_right (n := 256) (by decide) hs
        have := Int.ofNat_le.2 this
        rw [Int.natCast_pow, Int.natCast_pow] at this
        exact this
      rw [Int.pow_succ] at hp
      have e : num l = num (l.take s) * 256 + l.getD s 0 := by
        have h1 : num l = st (num (l.take s)) (l.getD s 0) := by
          show List.foldl st 0 l = st (List.foldl st 0 (l.take s)) (l.getD s 0)
          have h2 : List.foldl st 0 l = List.foldl st 0 (l.take s ++ [l.getD s 0]) := by rw [← hsp]
          rw [h2, List.foldl_append]; rfl
        rw [h1]; unfold st; omega
      rw [be, e, show (num (l.take s) * 256 + l.getD s 0) / 256 = num (l.take s) by omega, show (num (l.take s) * 256 + l.getD s 0) % 256 = l.getD s 0 by omega, ih _ htl (hb.take _) (by omega)]
      exact hsp.symm
  exact fun l hb hl => key l.length l rfl hb hl
theorem go_cons {b : List Int} {x : Int} {l : List Int} {v : Int} {r : List Int} {q : List Int} (h : go b (x :: l) = some (v :: r, q)) : 1 ≤ x ∧ x ≤ 8 ∧ x ≤ b.length ∧ v = num (b.take x.toNat) ∧ go (b.drop x.toNat) l = some (r, q) := by
  simp only [go] at h
  split at h
  · rename_i hc
    obtain ⟨p, h1, h2⟩ := Option.map_eq_some_iff.1 h
    simp only [Prod.mk.injEq, List.cons.injEq] at h2
    obtain ⟨⟨h3, h4⟩, h5⟩ := h2
    obtain ⟨p1, p2⟩ := p
    dsimp only at h3 h4 h5
    subst h4; subst h5
    exact ⟨hc.1, hc.2.1, hc.2.2, h3.symm, h1⟩
  · cases h
theorem be_take {b : List Int} (hb : Bytes b) {s : Nat} (hs : s ≤ 8) (hl : s ≤ b.length) : be s (num (b.take s)) = b.take s := by
  have := be_num (b.take s) (hb.take _) (by simp; omega)
  rwa [show (b.take s).length = s by simp; omega] at this
theorem num_take {b : List Int} (hb : Bytes b) {s : Nat} (hs : s ≤ 8) (hl : s ≤ b.length) : 0 ≤ num (b.take s) ∧ num (b.take s) < 256 ^ s := by
  have := num_in (b.take s) (by simp; omega) (hb.take _)
  rwa [show (b.take s).length = s by simp; omega] at this
theorem go_be (s : Nat) (v : Int) (r : List Int) (l : List Int) (hs : 1 ≤ s ∧ s ≤ 8) (hv : 0 ≤ v ∧ v < 256 ^ s) : go (be s v ++ r) ((s : Int) :: l) = (go r l).map fun p => (v :: p.1, p.2) := by
  have hl := be_len s v
  rw [go, if_pos (by simp [hl]; omega), Int.toNat_natCast]
  have e1 : (be s v ++ r).take s = be s v := by rw [List.take_append_of_le_length (by omega), List.take_of_length_le (by omega)]
  have e2 : (be s v ++ r).drop s = r := by
    have := List.drop_left (l₁ := be s v) (l₂ := r)
    rwa [hl] at this
  rw [e1, e2, num_be s v hs.2 hv]
theorem p1 : (256 : Int) ^ 1 = 256 := by decide
theorem p4 : (256 : Int) ^ 4 = 4294967296 := by decide
theorem refPut : ∀ (s : Nat) (b : List Int) (v : Int), s ≤ 8 → b.length ≤ 400000 → 0 ≤ v ∧ v < 18446744073709551616 → Ev (fun n => f82_broughamref02_Put_v2 n b v (s : Int)) (fun r => r = b ++ be s v)
  | 0, b, v, hs, hb, hv => by
    apply Ev.succ
    simp only [f82_broughamref02_Put_v2]
    exact Ev.pos (by simp) (Ev.some (by simp [be]))
  | s + 1, b, v, hs, hb, hv => by
    apply Ev.succ
    simp only [f82_broughamref02_Put_v2]
    rw [tdiv_e hv.1, tmod_e hv.1, u64_id (by omega) (by omega), i64_id (by omega) (by omega), u8_id (by omega) (by omega), show ((s + 1 : Nat) : Int) - 1 = s by omega]
    refine Ev.neg (by simp; omega) (Ev.neg (by simp; omega) (Ev.bind (refPut s b (v / 256) (by omega) hb (by omega)) ?_))
    rintro _ rfl
    have := be_len s (v / 256)
    exact Ev.guard (by simp [maxLen]; omega) (Ev.some (by simp [be]))
theorem refPut2 : ∀ (s : Nat) (v : Int), s ≤ 8 → 0 ≤ v ∧ v < 18446744073709551616 → Ev (fun n => f82_broughamref02_Put n v (s : Int)) (fun r => r = be s v)
  | 0, v, hs, hv => by
    apply Ev.succ
    simp only [f82_broughamref02_Put]
    exact Ev.pos (by simp) (Ev.some (by simp [be]))
  | s + 1, v, hs, hv => by
    apply Ev.succ
    simp only [f82_broughamref02_Put]
    rw [tdiv_e hv.1, tmod_e hv.1, u64_id (by omega) (by omega), i64_id (by omega) (by omega), u8_id (by omega) (by omega), show ((s + 1 : Nat) : Int) - 1 = s by omega]
    refine Ev.neg (by simp; omega) (Ev.neg (by simp; omega) (Ev.bind (refPut2 s (v / 256) (by omega) (by omega)) ?_))
    rintro _ rfl
    have := be_len s (v / 256)
    exact Ev.guard (by simp [maxLen]; omega) (Ev.some (by simp [be]))
theorem alive_ev : Ev (fun n => f41_broughamlaw31_alive n) (fun r => r = true) := Ev.at 30 (fun m => by rfl) rfl

abbrev Bl := List (Int × Int)
/-- Pieces of 32-bit numbers. -/
def Nums (l : Bl) : Prop := ∀ p ∈ l, U32 p.1 ∧ U32 p.2
def df (a b : Int) : Int := (a - b + 2147483648) % 4294967296 - 2147483648
theorem diff_is {a b : Int} : f89_serial_Diff a b = some (df a b) := by
  unfold f89_serial_Diff df
  rw [w_u32, w_i32, i64_id (by omega) (by omega)]
  congr 1; omega
theorem refdiff_is {a b : Int} (ha : U32 a) (hb : U32 b) : f86_broughamref04_Diff a b = some (df a b) := by
  have e1 : IntKind.wrap .i64 a = a := i64_id (by omega) (by omega)
  have e2 : IntKind.wrap .i64 b = b := i64_id (by omega) (by omega)
  have e3 : IntKind.wrap .i64 (a - b) = a - b := i64_id (by omega) (by omega)
  have e4 : IntKind.wrap .i64 (a - b + 4294967296) = a - b + 4294967296 := i64_id (by omega) (by omega)
  have e5 : IntKind.wrap .i64 (a - b - 4294967296) = a - b - 4294967296 := i64_id (by omega) (by omega)
  unfold f86_broughamref04_Diff df
  simp only [e1, e2, e3, e4, e5, decide_eq_true_eq]
  by_cases h : a - b < -2147483648
  · rw [if_pos h, if_neg (by omega)]; congr 1; omega
  · rw [if_neg h]
    by_cases h2 : a - b ≥ 2147483648
    · rw [if_pos h2]; congr 1; omega
    · rw [if_neg h2]; congr 1; omega
/-- May they be said? -/
def rt (wait : Int) : Int → Bl → Bool
  | _, [] => true
  | last, p :: l => if df p.1 last ≤ 0 then false else if df p.2 p.1 ≤ 0 then false else if df p.2 wait ≤ 0 then false else rt wait p.2 l
theorem getD_nums {l : Bl} (h : Nums l) {i : Nat} (hi : i < l.length) : U32 (l.getD i (0, 0)).1 ∧ U32 (l.getD i (0, 0)).2 := h _ (getD_mem hi _)
theorem right_loop (wait : Int) (l : Bl) (hl : l.length ≤ 1000) : ∀ (d : Nat) (i last : Int) (hi : 0 ≤ i ∧ i + d = l.length),
    Ev (fun n => f47_sack_Right_L5 n wait last l ((l.length : Nat) : Int) i) (fun w => w = if rt wait last (l.drop i.toNat) then .inr () else .inl false)
  | 0, i, last, hi => by
    apply Ev.succ
    unfold f47_sack_Right_L5
    refine Ev.neg (by simp only [decide_eq_true_eq]; omega) (Ev.some ?_)
    rw [List.drop_eq_nil_of_le (by omega)]; rfl
  | d + 1, i, last, hi => by
    apply Ev.succ
    unfold f47_sack_Right_L5
    refine Ev.pos (by simp only [decide_eq_true_eq]; omega) (Ev.guard (by omega) ?_)
    have e1 : l.drop i.toNat = l.getD i.toNat (0, 0) :: l.drop (i.toNat + 1) := drop_cons (by omega) _
    rw [e1, rt]
    refine Ev.bind (Ev.of diff_is rfl) ?_
    rintro _ rfl
    refine Ev.ite (fun c => ?_) (fun c => ?_)
    · simp only [decide_eq_true_eq] at c; rw [if_pos c]; exact Ev.some rfl
    simp only [decide_eq_true_eq] at c; rw [if_neg c]
    refine Ev.bind (Ev.of diff_is rfl) ?_
    rintro _ rfl
    refine Ev.ite (fun c => ?_) (fun c => ?_)
    · simp only [decide_eq_true_eq] at c; rw [if_pos c]; exact Ev.some rfl
    simp only [decide_eq_true_eq] at c; rw [if_neg c]
    refine Ev.bind (Ev.of diff_is rfl) ?_
    rintro _ rfl
    refine Ev.ite (fun c => ?_) (fun c => ?_)
    · simp only [decide_eq_true_eq] at c; rw [if_pos c]; exact Ev.some rfl
    simp only [decide_eq_true_eq] at c; rw [if_neg c, i64_id (by omega) (by omega)]
    have := right_loop wait l hl d (i + 1) (l.getD i.toNat (0, 0)).2 (by omega)
    rwa [show (i + 1).toNat = i.toNat + 1 by omega] at this
def rightB (wait : Int) (l : Bl) : Bool := decide (l.length ≤ 4) && rt wait wait l
theorem right_is (wait : Int) (l : Bl) (hl : l.length ≤ 1000) : Ev (fun n => f47_sack_Right n wait l) (fun r => r = rightB wait l) := by
  unfold f47_sack_Right rightB
  refine Ev.ite (fun c => ?_) (fun c => ?_)
  · simp only [decide_eq_true_eq] at c
    rw [decide_eq_false (by omega)]; exact Ev.some rfl
  simp only [decide_eq_true_eq] at c
  rw [decide_eq_true (show l.length ≤ 4 by omega)]
  refine Ev.bind (right_loop wait l hl l.length 0 wait (by omega)) ?_
  rintro _ rfl
  rw [show l.drop (0 : Int).toNat = l from rfl]
  cases rt wait wait l <;> exact Ev.some rfl
theorem refright_loop (wait : Int) (hw : U32 wait) (l : Bl) (hn : Nums l) (hl : l.length ≤ 1000) : ∀ (d : Nat) (i last : Int) (hlast : U32 last) (hi : 0 ≤ i ∧ i + d = l.length),
    Ev (fun n => f48_broughamref31_Right_L3 n wait l last i) (fun w => w = if rt wait last (l.drop i.toNat) then .inr l else .inl false)
  | 0, i, last, hlast, hi => by
    apply Ev.succ
    unfold f48_broughamref31_Right_L3
    refine Ev.neg (by simp only [decide_eq_true_eq]; omega) (Ev.some ?_)
    rw [List.drop_eq_nil_of_le (by omega)]; rfl
  | d + 1, i, last, hlast, hi => by
    have hp := getD_nums hn (i := i.toNat) (by omega)
    apply Ev.succ
    unfold f48_broughamref31_Right_L3
    refine Ev.pos (by simp only [decide_eq_true_eq]; omega) (Ev.guard (by omega) ?_)
    have e1 : l.drop i.toNat = l.getD i.toNat (0, 0) :: l.drop (i.toNat + 1) := drop_cons (by omega) _
    rw [e1, rt]
    refine Ev.bind (Ev.of (refdiff_is hp.1 hlast) rfl) ?_
    rintro _ rfl
    refine Ev.ite (fun c => ?_) (fun c => ?_)
    · simp only [decide_eq_true_eq] at c; rw [if_pos c]; exact Ev.some rfl
    simp only [decide_eq_true_eq] at c; rw [if_neg c]
    refine Ev.guard (by omega) (Ev.guard (by omega) ?_)
    refine Ev.bind (Ev.of (refdiff_is hp.2 hp.1) rfl) ?_
    rintro _ rfl
    refine Ev.ite (fun c => ?_) (fun c => ?_)
    · simp only [decide_eq_true_eq] at c; rw [if_pos c]; exact Ev.some rfl
    simp only [decide_eq_true_eq] at c; rw [if_neg c]
    refine Ev.guard (by omega) ?_
    refine Ev.bind (Ev.of (refdiff_is hp.2 hw) rfl) ?_
    rintro _ rfl
    refine Ev.ite (fun c => ?_) (fun c => ?_)
    · simp only [decide_eq_true_eq] at c; rw [if_pos c]; exact Ev.some rfl
    simp only [decide_eq_true_eq] at c; rw [if_neg c]
    refine Ev.guard (by omega) ?_
    rw [i64_id (by omega) (by omega)]
    have := refright_loop wait hw l hn hl d (i + 1) (l.getD i.toNat (0, 0)).2 hp.2 (by omega)
    rwa [show (i + 1).toNat = i.toNat + 1 by omega] at this
theorem refright_is (wait : Int) (hw : U32 wait) (l : Bl) (hn : Nums l) (hl : l.length ≤ 1000) : Ev (fun n => f48_broughamref31_Right n wait l) (fun r => r = rightB wait l) := by
  unfold f48_broughamref31_Right rightB
  refine Ev.bind (refright_loop wait hw l hn hl l.length 0 wait hw (by omega)) ?_
  rintro _ rfl
  rw [show l.drop (0 : Int).toNat = l from rfl]
  cases rt wait wait l
  · rw [Bool.and_false]; exact Ev.some rfl
  · rw [Bool.and_true]
    refine Ev.some ?_
    show decide (((l.length : Nat) : Int) ≤ 4) = decide (l.length ≤ 4)
    by_cases h : l.length ≤ 4
    · rw [decide_eq_true h, decide_eq_true (by omega)]
    · rw [decide_eq_false h, decide_eq_false (by omega)]
/-- The body. -/
def bodyOf : Int → Bl → List Int
  | _, [] => []
  | last, p :: l => be 4 ((p.1 - last) % 4294967296) ++ (be 4 ((p.2 - p.1) % 4294967296) ++ bodyOf p.2 l)
theorem body_len : ∀ (l : Bl) (last : Int), (bodyOf last l).length = 8 * l.length
  | [], _ => rfl
  | p :: l, last => by
    simp only [bodyOf, List.length_append, be_len, body_len l p.2, List.length_cons]; omega
theorem enc44 (u v : Int) : enc [(4, u), (4, v)] = be 4 u ++ be 4 v := by rw [enc_cons, enc_cons, f4, f4]; simp [enc]
theorem option_loop (l : Bl) (hl : l.length ≤ 1000) : ∀ (d : Nat) (i last : Int) (b : List Int) (hi : 0 ≤ i ∧ i + d = l.length) (hb : b.length ≤ 8 * i.toNat),
    Ev (fun n => f44_sack_Option_L6 n b last l ((l.length : Nat) : Int) i 0) (fun w => w = (b ++ bodyOf last (l.drop i.toNat), 0))
  | 0, i, last, b, hi, hb => by
    apply Ev.succ
    unfold f44_sack_Option_L6
    refine Ev.neg (by simp only [decide_eq_true_eq]; omega) (Ev.some ?_)
    rw [List.drop_eq_nil_of_le (by omega)]; simp [bodyOf]
  | d + 1, i, last, b, hi, hb => by
    apply Ev.succ
    unfold f44_sack_Option_L6 f79_pack_W
    refine Ev.pos (by simp only [decide_eq_true_eq]; omega) (Ev.guard (by omega) ?_)
    have e1 : l.drop i.toNat = l.getD i.toNat (0, 0) :: l.drop (i.toNat + 1) := drop_cons (by omega) _
    refine Ev.bind (Ev.of rfl rfl) ?_
    rintro _ rfl
    refine Ev.bind (Ev.of rfl rfl) ?_
    rintro _ rfl
    rw [w_u32, w_u32, u64_id (by omega) (by omega), u64_id (by omega) (by omega)]
    refine Ev.bind (put_is b _ (by omega) (by simp) ?_) ?_
    · intro f hf
      simp only [List.mem_cons, List.not_mem_nil, or_false] at hf
      rcases hf with rfl | rfl
      · show 0 ≤ _ % _; omega
      · show 0 ≤ _ % _; omega
    rintro _ rfl
    rw [i64_id (by omega) (by omega)]
    refine (option_loop l hl d (i + 1) (l.getD i.toNat (0, 0)).2 _ (by omega) ?_).mono ?_
    · simp only [enc44, List.length_append, be_len]; omega
    · rintro _ rfl
      rw [e1, bodyOf, show (i + 1).toNat = i.toNat + 1 by omega]
      simp only [enc44, List.append_assoc]
theorem option_is (wait : Int) (l : Bl) (hl : l.length ≤ 1000) : Ev (fun n => f44_sack_Option n wait l) (fun r => r = if rightB wait l = true ∧ l ≠ [] then (true, 9, bodyOf wait l) else (false, 0, [])) := by
  unfold f44_sack_Option
  refine Ev.bind (right_is wait l hl) ?_
  rintro _ rfl
  refine Ev.ite (fun c => Ev.some ?_) (fun c => ?_)
  · rw [if_neg (fun q => by rw [q.1] at c; cases c)]
  have hr : rightB wait l = true := by simpa using c
  refine Ev.ite (fun c => Ev.some ?_) (fun c => ?_)
  · rw [if_neg (fun q => q.2 (List.length_eq_zero_iff.1 (by simpa using c)))]
  have hne : l ≠ [] := fun q => by subst q; simp at c
  refine Ev.bind (option_loop l hl l.length 0 wait [] (by omega) (by simp)) ?_
  rintro _ rfl
  rw [if_pos ⟨hr, hne⟩]
  exact Ev.some (by simp)
theorem refoption_loop (l : Bl) (hl : l.length ≤ 1000) : ∀ (d : Nat) (i last : Int) (b : List Int) (hi : 0 ≤ i ∧ i + d = l.length) (hb : b.length ≤ 8 * i.toNat),
    Ev (fun n => f40_broughamref31_Option_L6 n l b last i) (fun w => w = b ++ bodyOf last (l.drop i.toNat))
  | 0, i, last, b, hi, hb => by
    apply Ev.succ
    unfold f40_broughamref31_Option_L6
    refine Ev.neg (by simp only [decide_eq_true_eq]; omega) (Ev.some ?_)
    rw [List.drop_eq_nil_of_le (by omega)]; simp [bodyOf]
  | d + 1, i, last, b, hi, hb => by
    apply Ev.succ
    unfold f40_broughamref31_Option_L6
    refine Ev.pos (by simp only [decide_eq_true_eq]; omega) (Ev.guard (by omega) ?_)
    have e1 : l.drop i.toNat = l.getD i.toNat (0, 0) :: l.drop (i.toNat + 1) := drop_cons (by omega) _
    rw [w_u32, w_u32, u64_id (by omega) (by omega), u64_id (by omega) (by omega)]
    refine Ev.bind (refPut 4 b _ (by omega) (by omega) (by omega)) ?_
    rintro _ rfl
    refine Ev.guard (by omega) (Ev.guard (by omega) ?_)
    refine Ev.bind (refPut 4 _ _ (by omega) (by simp only [List.length_append, be_len]; omega) (by omega)) ?_
    rintro _ rfl
    refine Ev.guard (by omega) ?_
    rw [i64_id (by omega) (by omega)]
    refine (refoption_loop l hl d (i + 1) (l.getD i.toNat (0, 0)).2 _ (by omega) ?_).mono ?_
    · simp only [List.length_append, be_len]; omega
    · rintro _ rfl
      rw [e1, bodyOf, show (i + 1).toNat = i.toNat + 1 by omega]
      simp only [List.append_assoc]
theorem refoption_is (wait : Int) (hw : U32 wait) (l : Bl) (hn : Nums l) (hl : l.length ≤ 1000) : Ev (fun n => f40_broughamref31_Option n wait l) (fun r => r = if rightB wait l = true ∧ l ≠ [] then (bodyOf wait l, true) else ([], false)) := by
  unfold f40_broughamref31_Option
  refine Ev.ite (fun c => Ev.some ?_) (fun c => ?_)
  · rw [if_neg (fun q => q.2 (List.length_eq_zero_iff.1 (by simpa using c)))]
  have hne : l ≠ [] := fun q => by subst q; simp at c
  refine Ev.bind (refright_is wait hw l hn hl) ?_
  rintro _ rfl
  refine Ev.ite (fun c => Ev.some ?_) (fun c => ?_)
  · rw [if_neg (fun q => by rw [q.1] at c; cases c)]
  have hr : rightB wait l = true := by simpa using c
  refine Ev.bind (refoption_loop l hl l.length 0 wait [] (by omega) (by simp)) ?_
  rintro _ rfl
  rw [if_pos ⟨hr, hne⟩]
  exact Ev.some (by simp)
/-- The pieces that a body says. -/
def rd : Nat → Int → List Int → Bl
  | 0, _, _ => []
  | k + 1, last, b => ((last + num (b.take 4)) % 4294967296, ((last + num (b.take 4)) % 4294967296 + num ((b.drop 4).take 4)) % 4294967296) :: rd k (((last + num (b.take 4)) % 4294967296 + num ((b.drop 4).take 4)) % 4294967296) (b.drop 8)
theorem rd_len : ∀ (k : Nat) (last : Int) (b : List Int), (rd k last b).length = k
  | 0, _, _ => rfl
  | k + 1, _, _ => by rw [rd, List.length_cons, rd_len k]
theorem rd_nums : ∀ (k : Nat) (last : Int) (b : List Int), Nums (rd k last b)
  | 0, _, _, p, hp => by cases hp
  | k + 1, last, b, p, hp => by
    rcases List.mem_cons.1 hp with rfl | hp
    · exact ⟨⟨by show 0 ≤ _ % _; omega, by show _ % _ < _; omega⟩, ⟨by show 0 ≤ _ % _; omega, by show _ % _ < _; omega⟩⟩
    · exact rd_nums k _ _ p hp
theorem go44 {b : List Int} (h : 8 ≤ b.length) : go b [4, 4] = some ([num (b.take 4), num ((b.drop 4).take 4)], b.drop 8) := by
  have e2 : (b.drop 4).length = b.length - 4 := List.length_drop
  rw [go, if_pos (by omega)]
  show (go (b.drop 4) [4]).map _ = _
  rw [go, if_pos (by omega)]
  show ((go ((b.drop 4).drop 4) []).map _).map _ = _
  rw [List.drop_drop]
  rfl
def parseOf (wait : Int) (k : Int) (b : List Int) : Bl × Bool :=
  if k = 9 ∧ b.length ≠ 0 ∧ b.length % 8 = 0 ∧ b.length ≤ 32 ∧ rightB wait (rd (b.length / 8) wait b) = true then (rd (b.length / 8) wait b, true) else ([], false)
theorem tmod8 (n : Nat) : Int.tmod ((n : Nat) : Int) 8 = ((n % 8 : Nat) : Int) := by rw [tmod_e (by omega)]; omega
theorem parse_nums (wait k : Int) (b : List Int) : Nums (parseOf wait k b).1 ∧ (parseOf wait k b).1.length ≤ 4 := by
  unfold parseOf
  split
  · rename_i h; exact ⟨rd_nums _ _ _, by rw [rd_len]; omega⟩
  · exact ⟨fun p hp => (by cases hp), by simp⟩
theorem plain_loop (l : Bl) (hl : l.length ≤ 1000) : ∀ (d : Nat) (i : Int) (out : Bl) (hi : 0 ≤ i ∧ i + d = l.length) (ho : out.length ≤ i.toNat),
    Ev (fun n => f36_broughamlaw31_plain_L3 n l out i) (fun w => w = out ++ l.drop i.toNat)
  | 0, i, out, hi, ho => by
    apply Ev.succ
    unfold f36_broughamlaw31_plain_L3
    refine Ev.neg (by simp only [decide_eq_true_eq]; omega) (Ev.some ?_)
    rw [List.drop_eq_nil_of_le (by omega)]; simp
  | d + 1, i, out, hi, ho => by
    apply Ev.succ
    unfold f36_broughamlaw31_plain_L3
    have e1 : l.drop i.toNat = l.getD i.toNat (0, 0) :: l.drop (i.toNat + 1) := drop_cons (by omega) _
    refine Ev.pos (by simp only [decide_eq_true_eq]; omega) (Ev.guard (by omega) (Ev.guard (by omega) (Ev.guard (by simp only [List.length_singleton, maxLen]; omega) ?_)))
    rw [i64_id (by omega) (by omega)]
    refine (plain_loop l hl d (i + 1) _ (by omega) (by simp only [List.length_append, List.length_singleton]; omega)).mono ?_
    rintro _ rfl
    rw [e1, show (i + 1).toNat = i.toNat + 1 by omega]; simp
theorem plain_is (l : Bl) (hl : l.length ≤ 1000) : Ev (fun n => f36_broughamlaw31_plain n l) (fun r => r = l) := by
  unfold f36_broughamlaw31_plain
  refine Ev.bind (plain_loop l hl l.length 0 [] (by omega) (by simp)) ?_
  rintro _ rfl
  exact Ev.some (by simp)
theorem same_loop (l : Bl) (hl : l.length ≤ 1000) : ∀ (d : Nat) (i : Int) (hi : 0 ≤ i ∧ i + d = l.length), Ev (fun n => f35_broughamlaw31_same_L4 n l l i) (fun w => w = .inr ())
  | 0, i, hi => by
    apply Ev.succ
    unfold f35_broughamlaw31_same_L4
    exact Ev.neg (by simp only [decide_eq_true_eq]; omega) (Ev.some rfl)
  | d + 1, i, hi => by
    apply Ev.succ
    unfold f35_broughamlaw31_same_L4
    refine Ev.pos (by simp only [decide_eq_true_eq]; omega) (Ev.guard (by omega) (Ev.guard (by omega) (Ev.neg (by simp) ?_)))
    rw [i64_id (by omega) (by omega)]
    exact same_loop l hl d (i + 1) (by omega)
theorem same_is (l : Bl) (hl : l.length ≤ 1000) : Ev (fun n => f35_broughamlaw31_same n l l) (fun r => r = true) := by
  unfold f35_broughamlaw31_same
  refine Ev.neg (by simp) ?_
  refine Ev.bind (same_loop l hl l.length 0 (by omega)) ?_
  rintro _ rfl
  exact Ev.some rfl
theorem ok_nums {l : Bl} (h : K.ok (.slice (.pair (.int .u32) (.int .u32))) l) : Nums l := fun p hp => ⟨ok_u32 (h.2 p hp).1, ok_u32 (h.2 p hp).2⟩
end Go.Proofs.YtjoibacjpapncaaF31b
