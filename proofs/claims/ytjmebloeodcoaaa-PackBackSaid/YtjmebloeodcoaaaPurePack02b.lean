/- What functions of this text leave, in plain numbers: proved for another text, and for this one by the same steps. Conditions: none. -/
import Derived.Test.YtjmebloeodcoaaaF02b
import Derived.Test.YtjmebloeodcoaaaZedPb
namespace Go.Proofs.YtjmebloeodcoaaaF02b
open Go Zed
set_option linter.unusedVariables false
set_option linter.unusedSimpArgs false

def st (x c : Int) : Int := (x * 256 + c) % 18446744073709551616
def num (l : List Int) : Int := l.foldl st 0
def go (b : List Int) : List Int → Option (List Int × List Int)
  | [] => some ([], b)
  | s :: r => if 1 ≤ s ∧ s ≤ 8 ∧ s ≤ b.length then (go (b.drop s.toNat) r).map fun p => (num (b.take s.toNat) :: p.1, p.2) else none
theorem inner (b out : List Int) (n_ : Int) (t13 : List Int) (t14 t15 : Int) (l : List Int) (hl : l.length ≤ 8) (hb : Bytes l) : ∀ (k i : Nat) (x : Int), i + k = l.length →
    Ev (fun n => f47_pack_Get_L9 n b out n_ x t13 t14 t15 l ((l.length : Nat) : Int) i) (fun r => r = (b, out, n_, (l.drop i).foldl st x, t13, t14, t15))
  | 0, i, x, h => by
    apply Ev.succ
    simp only [f47_pack_Get_L9]
    exact Ev.neg (by simp; omega) (Ev.some (by rw [List.drop_eq_nil_of_le (by omega)]; rfl))
  | k + 1, i, x, h => by
    apply Ev.succ
    simp only [f47_pack_Get_L9]
    have hi : i < l.length := by omega
    have hc := hb _ (getD_mem hi 0)
    refine Ev.pos (by simp; omega) (Ev.guard (by omega) ?_)
    rw [Int.toNat_natCast, or_u64_byte x _ hc, i64_id (show -9223372036854775808 ≤ (i : Int) + 1 by omega) (by omega), show (i : Int) + 1 = ((i + 1 : Nat) : Int) by omega]
    refine (inner b out n_ t13 t14 t15 l hl hb k (i + 1) _ (by omega)).mono ?_
    rintro _ rfl
    rw [drop_cons hi 0]; rfl

/-- What both leave. -/
def left (out : List Int) : Option (List Int × List Int) → (List Int × Bool × List Int) ⊕ (List Int × List Int)
  | none => .inl ([], false, [])
  | some p => .inr (p.2, out ++ p.1)

theorem left_map (out : List Int) (x : Int) (o : Option (List Int × List Int)) : left (out ++ [x]) o = left out (o.map fun p => (x :: p.1, p.2)) := by
  cases o <;> simp [left]

theorem gets (sizes : List Int) (hs : sizes.length ≤ 200) : ∀ (k i : Nat) (b out : List Int), i + k = sizes.length → b.length ≤ 100000 → Bytes b → out.length ≤ i →
    Ev (fun n => f47_pack_Get_L3 n b out sizes ((sizes.length : Nat) : Int) i) (fun r => r = left out (go b (sizes.drop i)))
  | 0, i, b, out, h, hbl, hb, ho => by
    apply Ev.succ
    simp only [f47_pack_Get_L3]
    exact Ev.neg (by simp; omega) (Ev.some (by rw [List.drop_eq_nil_of_le (by omega)]; simp [go, left]))
  | k + 1, i, b, out, h, hbl, hb, ho => by
    apply Ev.succ
    simp only [f47_pack_Get_L3]
    have hi : i < sizes.length := by omega
    rw [drop_cons hi 0, Int.toNat_natCast]
    generalize sizes.getD i 0 = s
    simp only [go]
    refine Ev.pos (by simp; omega) (Ev.guard (by omega) (Ev.ite (fun h1 => ?_) (fun h1 => Ev.ite (fun h2 => ?_) (fun h2 => Ev.ite (fun h3 => ?_) (fun h3 => ?_)))))
    · simp only [decide_eq_true_eq] at h1
      exact Ev.some (by rw [if_neg (by omega)]; rfl)
    · simp only [decide_eq_true_eq] at h1 h2
      exact Ev.some (by rw [if_neg (by omega)]; rfl)
    · simp only [decide_eq_true_eq] at h1 h2 h3
      exact Ev.some (by rw [if_neg (by omega)]; rfl)
    · simp only [decide_eq_true_eq] at h1 h2 h3
      have htl : (b.take s.toNat).length = s.toNat := by simp; omega
      refine Ev.guard (by simp [cutOk]; omega) (Ev.bind (inner b out s sizes _ _ (b.take s.toNat) (by omega) (hb.take _) (b.take s.toNat).length 0 0 (by omega)) ?_)
      rintro _ rfl
      dsimp only
      refine Ev.guard (by simp [maxLen]; omega) (Ev.guard (by simp [cutOk]; omega) ?_)
      rw [i64_id (show -9223372036854775808 ≤ (i : Int) + 1 by omega) (by omega), show (i : Int) + 1 = ((i + 1 : Nat) : Int) by omega, if_pos (by omega), List.take_length]
      refine (gets sizes hs k (i + 1) (b.drop s.toNat) (out ++ [num (b.take s.toNat)]) (by omega) (by simp; omega) (hb.drop _) (by simp; omega)).mono ?_
      rintro _ rfl
      exact left_map _ _ _

def ans (o : Option (List Int × List Int)) : List Int × Bool × List Int := match o with
  | none => ([], false, [])
  | some p => (p.1, true, p.2)

theorem go_len : ∀ (l b : List Int) (p : List Int × List Int), go b l = some p → p.2.length ≤ b.length ∧ p.1.length = l.length
  | [], b, p, h => by simp [go] at h; subst h; simp
  | s :: r, b, p, h => by
    simp only [go] at h
    split at h
    · obtain ⟨q, h1, rfl⟩ := Option.map_eq_some_iff.1 h
      have := go_len r _ q h1
      simp at this ⊢; omega
    · cases h

theorem get_is (b sizes : List Int) (hbl : b.length ≤ 100000) (hb : Bytes b) (hs : sizes.length ≤ 200) : Ev (fun n => f47_pack_Get n b sizes) (fun r => r = ans (go b sizes)) := by
  simp only [f47_pack_Get]
  refine Ev.bind (gets sizes hs sizes.length 0 b [] (by omega) hbl hb (by simp)) ?_
  rintro _ rfl
  rw [List.drop_zero]
  cases h : go b sizes with
  | none => exact Ev.some rfl
  | some p =>
    have := go_len _ _ _ h
    exact Ev.guard (by simp [maxLen]; omega) (Ev.some rfl)
/-- The lowest bytes of a number, the highest first. -/
def be : Nat → Int → List Int
  | 0, _ => []
  | s + 1, v => be s (v / 256) ++ [v % 256]
theorem be_len : ∀ (s : Nat) (v : Int), (be s v).length = s
  | 0, _ => rfl
  | s + 1, v => by simp [be, be_len s]
theorem be_cons : ∀ (s : Nat) (v : Int), be (s + 1) v = (v / 256 ^ s % 256) :: be s v
  | 0, v => by simp [be]
  | s + 1, v => by
    rw [be, be_cons s (v / 256)]
    have : v / 256 / 256 ^ s = v / 256 ^ (s + 1) := by
      rw [Int.ediv_ediv_of_nonneg (by decide), Int.pow_succ, Int.mul_comm]
    rw [this]
    rfl
def fieldB (f : Int × Int) : List Int := if 1 ≤ f.1 ∧ f.1 ≤ 8 then be f.1.toNat f.2 else []
def enc (l : List (Int × Int)) : List Int := l.flatMap fieldB
theorem fieldB_len (f : Int × Int) : (fieldB f).length ≤ 8 := by
  unfold fieldB; split
  · rw [be_len]; omega
  · simp
theorem enc_len (l : List (Int × Int)) : (enc l).length ≤ 8 * l.length := by
  induction l with
  | nil => simp [enc]
  | cons f l ih => simp only [enc, List.flatMap_cons, List.length_append, List.length_cons] at ih ⊢; have := fieldB_len f; omega
theorem pow256 (s : Nat) : (2 : Int) ^ (8 * s) = 256 ^ s := by rw [Int.pow_mul]; rfl

theorem puts1 (t11 : List (Int × Int)) (t12 t13 f0 v : Int) (hv : 0 ≤ v) : ∀ (s : Nat) (out : List Int), s ≤ 8 → out.length + s ≤ 300000 →
    Ev (fun n => f46_pack_Put_L7 n out ((s : Int) - 1) t11 t12 t13 f0 v) (fun r => r = (out ++ be s v, t11, t12, t13))
  | 0, out, hs, hl => by
    apply Ev.succ
    simp only [f46_pack_Put_L7]
    exact Ev.neg (by simp) (Ev.some (by simp [be]))
  | s + 1, out, hs, hl => by
    apply Ev.succ
    simp only [f46_pack_Put_L7]
    have e : ((s + 1 : Nat) : Int) - 1 = s := by omega
    rw [e, i64_id (show -9223372036854775808 ≤ 8 * (s : Int) by omega) (by omega), i64_id (show -9223372036854775808 ≤ (s : Int) - 1 by omega) (by omega)]
    have e2 : min (8 * (s : Int)).toNat (IntKind.bits .u64) = 8 * s := by simp [IntKind.bits]; omega
    have e3 : IntKind.wrap .u8 (Int.fdiv v (2 ^ (8 * s))) = v / 256 ^ s % 256 := by rw [pow256, fdiv_e (Int.pow_nonneg (by decide)), w_u8]
    rw [e2, e3]
    refine Ev.pos (by simp) (Ev.guard (by omega) (Ev.guard (by simp [maxLen]; omega) ?_))
    refine (puts1 t11 t12 t13 f0 v hv s _ (by omega) (by simp; omega)).mono ?_
    rintro _ rfl
    rw [be_cons]; simp

theorem puts (l : List (Int × Int)) (hl : l.length ≤ 200) (hv : ∀ f ∈ l, 0 ≤ f.2) : ∀ (k i : Nat) (out : List Int), i + k = l.length → out.length ≤ 150000 + 8 * i →
    Ev (fun n => f46_pack_Put_L3 n out l ((l.length : Nat) : Int) i) (fun r => r = out ++ enc (l.drop i))
  | 0, i, out, h, ho => by
    apply Ev.succ
    simp only [f46_pack_Put_L3]
    exact Ev.neg (by simp; omega) (Ev.some (by rw [List.drop_eq_nil_of_le (by omega)]; simp [enc]))
  | k + 1, i, out, h, ho => by
    apply Ev.succ
    simp only [f46_pack_Put_L3]
    have hi : i < l.length := by omega
    have hf := hv _ (getD_mem hi (0, 0))
    rw [drop_cons hi (0, 0), Int.toNat_natCast]
    generalize l.getD i (0, 0) = f at hf
    obtain ⟨s, v⟩ := f
    dsimp only at hf ⊢
    have hfl := fieldB_len (s, v)
    have ih := fun (out' : List Int) ho' => puts l hl hv k (i + 1) out' (by omega) ho'
    have e : enc ((s, v) :: l.drop (i + 1)) = fieldB (s, v) ++ enc (l.drop (i + 1)) := by simp [enc]
    rw [e, i64_id (show -9223372036854775808 ≤ (i : Int) + 1 by omega) (by omega), show (i : Int) + 1 = ((i + 1 : Nat) : Int) by omega]
    refine Ev.pos (by simp; omega) (Ev.guard (by omega) (Ev.ite (fun h1 => ?_) (fun h1 => Ev.ite (fun h2 => ?_) (fun h2 => ?_))))
    · simp only [decide_eq_true_eq] at h1
      refine (ih out (by omega)).mono ?_
      rintro _ rfl
      rw [fieldB, if_neg (by simp; omega)]; rfl
    · simp only [decide_eq_true_eq] at h1 h2
      refine (ih out (by omega)).mono ?_
      rintro _ rfl
      rw [fieldB, if_neg (by simp; omega)]; rfl
    · simp only [decide_eq_true_eq] at h1 h2
      have := puts1 l ((l.length : Nat) : Int) i s v hf s.toNat out (by omega) (by omega)
      rw [show ((s.toNat : Nat) : Int) = s by omega] at this
      rw [i64_id (show -9223372036854775808 ≤ s - 1 by omega) (by omega)]
      refine Ev.bind this ?_
      rintro _ rfl
      dsimp only
      have e4 : fieldB (s, v) = be s.toNat v := by rw [fieldB, if_pos (by simp; omega)]
      rw [i64_id (show -9223372036854775808 ≤ (i : Int) + 1 by omega) (by omega), show (i : Int) + 1 = ((i + 1 : Nat) : Int) by omega]
      refine (ih (out ++ be s.toNat v) (by rw [List.length_append, be_len]; omega)).mono ?_
      rintro _ rfl
      rw [e4, List.append_assoc]

theorem put_is (b : List Int) (l : List (Int × Int)) (hb : b.length ≤ 100000) (hl : l.length ≤ 200) (hv : ∀ f ∈ l, 0 ≤ f.2) : Ev (fun n => f46_pack_Put n b l) (fun r => r = b ++ enc l) := by
  simp only [f46_pack_Put]
  refine Ev.guard (by simp [maxLen]; omega) (Ev.bind (puts l hl hv l.length 0 b (by omega) (by omega)) ?_)
  rintro _ rfl
  exact Ev.some rfl

abbrev U32 (x : Int) : Prop := 0 ≤ x ∧ x < 4294967296
abbrev U8 (x : Int) : Prop := 0 ≤ x ∧ x < 256
theorem be_bytes : ∀ (s : Nat) (v : Int), Bytes (be s v)
  | 0, _ => Bytes.nil
  | s + 1, v => (be_bytes s (v / 256)).append (Bytes.cons (by omega) Bytes.nil)
theorem be1 {x : Int} (h : U8 x) : be 1 x = [x] := by simp [be]; omega
theorem enc_cons (s : Int) (v : Int) (l : List (Int × Int)) : enc ((s, v) :: l) = fieldB (s, v) ++ enc l := by simp [enc]
theorem f1 (v : Int) : fieldB (1, v) = be 1 v := rfl
theorem f4 (v : Int) : fieldB (4, v) = be 4 v := rfl
theorem num_in (l : List Int) (hl : l.length ≤ 8) (hb : Bytes l) : 0 ≤ num l ∧ num l < 256 ^ l.length := by
  have gen : ∀ (l : List Int) (x : Int), Bytes l → 0 ≤ x → (x + 1) * 256 ^ l.length ≤ 18446744073709551616 → 0 ≤ l.foldl st x ∧ l.foldl st x < (x + 1) * 256 ^ l.length := by
    intro l
    induction l with
    | nil => intro x _ h0 h1; simp at h1 ⊢; omega
    | cons c l ih =>
      intro x hb h0 h1
      have hc := hb.head
      rw [List.length_cons, Int.pow_succ, Int.mul_comm (256 ^ l.length) 256, ← Int.mul_assoc] at h1
      have hp : 1 ≤ (256 : Int) ^ l.length := Int.pow_pos (by decide)
      have hx : (x + 1) * 256 ≤ 18446744073709551616 := by
        have := Int.mul_le_mul_of_nonneg_left hp (show 0 ≤ (x + 1) * 256 by omega)
        omega
      have e : st x c = x * 256 + c := by unfold st; omega
      rw [List.foldl_cons, e]
      have hm : (x * 256 + c + 1) * 256 ^ l.length ≤ (x + 1) * 256 * 256 ^ l.length := Int.mul_le_mul_of_nonneg_right (by omega) (by omega)
      obtain ⟨i1, i2⟩ := ih (x * 256 + c) hb.tail (by omega) (by omega)
      refine ⟨i1, ?_⟩
      rw [List.length_cons, Int.pow_succ, Int.mul_comm (256 ^ l.length) 256, ← Int.mul_assoc]
      omega
  have hp : (256 : Int) ^ l.length ≤ 256 ^ 8 := by
    have := Nat.pow_le_pow_right (n := 256) (by decide) hl
    have := Int.ofNat_le.2 this
    rw [Int.natCast_pow, Int.natCast_pow] at this
    exact this
  have := gen l 0 hb (by omega) (by rw [show (256 : Int) ^ 8 = 18446744073709551616 by decide] at hp; omega)
  unfold num
  simpa using this

theorem go_bytes : ∀ (l b : List Int) (p : List Int × List Int), go b l = some p → Bytes b → Bytes p.2
  | [], b, p, h, hb => by cases h; exact hb
  | s :: l, b, p, h, hb => by
    simp only [go] at h
    split at h
    · obtain ⟨q, h1, rfl⟩ := Option.map_eq_some_iff.1 h
      exact go_bytes l _ q h1 (hb.drop _)
    · cases h
theorem num_be : ∀ (s : Nat) (v : Int), s ≤ 8 → 0 ≤ v ∧ v < 256 ^ s → num (be s v) = v
  | 0, v, _, h => by simp at h; simp [be, num]; omega
  | s + 1, v, hs, h => by
    rw [Int.pow_succ] at h
    have ih := num_be s (v / 256) (by omega) (by omega)
    have hp : (256 : Int) ^ (s + 1) ≤ 18446744073709551616 := by
      have := Nat.pow_le_pow_right (n := 256) (by decide) hs
      have := Int.ofNat_le.2 this
      rw [Int.natCast_pow, Int.natCast_pow] at this
      exact this
    rw [Int.pow_succ] at hp
    unfold num at ih ⊢
    rw [be, List.foldl_append, ih]
    simp only [List.foldl_cons, List.foldl_nil, st]
    omega
theorem be_num : ∀ (l : List Int), Bytes l → l.length ≤ 8 → be l.length (num l) = l := by
  have key : ∀ (s : Nat) (l : List Int), l.length = s → Bytes l → s ≤ 8 → be s (num l) = l := by
    intro s
    induction s with
    | zero => intro l h _ _; rw [List.eq_nil_of_length_eq_zero h]; rfl
    | succ s ih =>
      intro l h hb hs
      have hi : s < l.length := by omega
      have hsp : l = l.take s ++ [l.getD s 0] := by
        have := drop_cons hi 0
        rw [List.drop_eq_nil_of_le (show l.length ≤ s + 1 by omega)] at this
        rw [← this, List.take_append_drop]
      have hx := hb.get s
      have htl : (l.take s).length = s := by simp; omega
      have hin := num_in (l.take s) (by omega) (hb.take _)
      rw [htl] at hin
      have hp : (256 : Int) ^ (s + 1) ≤ 18446744073709551616 := by
        have := Nat.pow_le_pow_right (n := 256) (by decide) hs
        have := Int.ofNat_le.2 this
        rw [Int.natCast_pow, Int.natCast_pow] at this
        exact this
      rw [Int.pow_succ] at hp
      have e : num l = num (l.take s) * 256 + l.getD s 0 := by
        have h1 : num l = st (num (l.take s)) (l.getD s 0) := by
          show List.foldl st 0 l = st (List.foldl st 0 (l.take s)) (l.getD s 0)
          have h2 : List.foldl st 0 l = List.foldl st 0 (l.take s ++ [l.getD s 0]) := by rw [← hsp]
          rw [h2, List.foldl_append]; rfl
        rw [h1]; unfold st; omega
      rw [be, e, show (num (l.take s) * 256 + l.getD s 0) / 256 = num (l.take s) by omega, show (num (l.take s) * 256 + l.getD s 0) % 256 = l.getD s 0 by omega, ih _ htl (hb.take _) (by omega)]
      exact hsp.symm
  exact fun l hb hl => key l.length l rfl hb hl
theorem go_cons {b : List Int} {x : Int} {l : List Int} {v : Int} {r : List Int} {q : List Int} (h : go b (x :: l) = some (v :: r, q)) : 1 ≤ x ∧ x ≤ 8 ∧ x ≤ b.length ∧ v = num (b.take x.toNat) ∧ go (b.drop x.toNat) l = some (r, q) := by
  simp only [go] at h
  split at h
  · rename_i hc
    obtain ⟨p, h1, h2⟩ := Option.map_eq_some_iff.1 h
    simp only [Prod.mk.injEq, List.cons.injEq] at h2
    obtain ⟨⟨h3, h4⟩, h5⟩ := h2
    obtain ⟨p1, p2⟩ := p
    dsimp only at h3 h4 h5
    subst h4; subst h5
    exact ⟨hc.1, hc.2.1, hc.2.2, h3.symm, h1⟩
  · cases h
theorem be_take {b : List Int} (hb : Bytes b) {s : Nat} (hs : s ≤ 8) (hl : s ≤ b.length) : be s (num (b.take s)) = b.take s := by
  have := be_num (b.take s) (hb.take _) (by simp; omega)
  rwa [show (b.take s).length = s by simp; omega] at this
theorem num_take {b : List Int} (hb : Bytes b) {s : Nat} (hs : s ≤ 8) (hl : s ≤ b.length) : 0 ≤ num (b.take s) ∧ num (b.take s) < 256 ^ s := by
  have := num_in (b.take s) (by simp; omega) (hb.take _)
  rwa [show (b.take s).length = s by simp; omega] at this
theorem go_be (s : Nat) (v : Int) (r : List Int) (l : List Int) (hs : 1 ≤ s ∧ s ≤ 8) (hv : 0 ≤ v ∧ v < 256 ^ s) : go (be s v ++ r) ((s : Int) :: l) = (go r l).map fun p => (v :: p.1, p.2) := by
  have hl := be_len s v
  rw [go, if_pos (by simp [hl]; omega), Int.toNat_natCast]
  have e1 : (be s v ++ r).take s = be s v := by rw [List.take_append_of_le_length (by omega), List.take_of_length_le (by omega)]
  have e2 : (be s v ++ r).drop s = r := by
    have := List.drop_left (l₁ := be s v) (l₂ := r)
    rwa [hl] at this
  rw [e1, e2, num_be s v hs.2 hv]
theorem p1 : (256 : Int) ^ 1 = 256 := by decide
theorem p4 : (256 : Int) ^ 4 = 4294967296 := by decide
end Go.Proofs.YtjmebloeodcoaaaF02b
