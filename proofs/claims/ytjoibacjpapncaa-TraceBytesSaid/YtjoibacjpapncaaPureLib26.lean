/- What functions of this text leave, in plain numbers: proved for another text, and for this one by the same steps. Conditions: none. -/
import Derived.Test.YtjoibacjpapncaaF26
import Derived.Test.YtjoibacjpapncaaZedPb
namespace Go.Proofs.YtjoibacjpapncaaF26
open Go Zed Go.Proofs.YtjoibacjpapncaaLeaf
set_option linter.unusedVariables false
set_option linter.unusedSimpArgs false

def st (x c : Int) : Int := (x * 256 + c) % 18446744073709551616
def num (l : List Int) : Int := l.foldl st 0
def go (b : List Int) : List Int → Option (List Int × List Int)
  | [] => some ([], b)
  | s :: r => if 1 ≤ s ∧ s ≤ 8 ∧ s ≤ b.length then (go (b.drop s.toNat) r).map fun p => (num (b.take s.toNat) :: p.1, p.2) else none
theorem inner (b out : List Int) (n_ : Int) (t13 : List Int) (t14 t15 : Int) (l : List Int) (hl : l.length ≤ 8) (hb : Bytes l) : ∀ (k i : Nat) (x : Int), i + k = l.length →
    Ev (fun n => f84_pack_Get_L9 n b out n_ x t13 t14 t15 l ((l.length : Nat) : Int) i) (fun r => r = (b, out, n_, (l.drop i).foldl st x, t13, t14, t15))
  | 0, i, x, h => by
    apply Ev.succ
    simp only [f84_pack_Get_L9]
    exact Ev.neg (by simp; omega) (Ev.some (by rw [List.drop_eq_nil_of_le (by omega)]; rfl))
  | k + 1, i, x, h => by
    apply Ev.succ
    simp only [f84_pack_Get_L9]
    have hi : i < l.length := by omega
    have hc := hb _ (getD_mem hi 0)
    refine Ev.pos (by simp; omega) (Ev.guard (by omega) ?_)
    rw [Int.toNat_natCast, or_u64_byte x _ hc, i64_id (show -9223372036854775808 ≤ (i : Int) + 1 by omega) (by omega), show (i : Int) + 1 = ((i + 1 : Nat) : Int) by omega]
    refine (inner b out n_ t13 t14 t15 l hl hb k (i + 1) _ (by omega)).mono ?_
    rintro _ rfl
    rw [drop_cons hi 0]; rfl

theorem refInner (b : List Int) (m : Nat) (hm : m ≤ b.length) (hm8 : m ≤ 8) (hb : Bytes b) : ∀ (k i : Nat) (x : Int), i + k = m →
    Ev (fun n => f125_broughamref02_Get_L5 n b m x i) (fun r => r = (b, (m : Int), ((b.take m).drop i).foldl st x))
  | 0, i, x, h => by
    apply Ev.succ
    simp only [f125_broughamref02_Get_L5]
    exact Ev.neg (by simp; omega) (Ev.some (by rw [List.drop_eq_nil_of_le (by simp; omega)]; rfl))
  | k + 1, i, x, h => by
    apply Ev.succ
    simp only [f125_broughamref02_Get_L5]
    have hi : i < (b.take m).length := by simp; omega
    have hc := hb _ (getD_mem (show i < b.length by omega) 0)
    have he : (b.take m).getD i 0 = b.getD i 0 := by simp only [List.getD]; rw [List.getElem?_take, if_pos (by omega)]
    refine Ev.pos (by simp; omega) (Ev.guard (by omega) ?_)
    rw [Int.toNat_natCast, w_u64, w_u64, w_u64, i64_id (show -9223372036854775808 ≤ (i : Int) + 1 by omega) (by omega), show (i : Int) + 1 = ((i + 1 : Nat) : Int) by omega]
    refine (refInner b m hm hm8 hb k (i + 1) _ (by omega)).mono ?_
    rintro _ rfl
    rw [drop_cons hi 0, List.foldl_cons, he]
    have : st x (b.getD i 0) = (x * 256 % 18446744073709551616 + b.getD i 0 % 18446744073709551616) % 18446744073709551616 := by unfold st; omega
    rw [this]

/-- What both leave. -/
def left (out : List Int) : Option (List Int × List Int) → (List Int × List Int × Bool) ⊕ (List Int × List Int)
  | none => .inl ([], [], false)
  | some p => .inr (p.2, out ++ p.1)

theorem left_map (out : List Int) (x : Int) (o : Option (List Int × List Int)) : left (out ++ [x]) o = left out (o.map fun p => (x :: p.1, p.2)) := by
  cases o <;> simp [left]

theorem gets (sizes : List Int) (hs : sizes.length ≤ 200) : ∀ (k i : Nat) (b out : List Int), i + k = sizes.length → b.length ≤ 4096 → Bytes b → out.length ≤ i →
    Ev (fun n => f84_pack_Get_L3 n b out sizes ((sizes.length : Nat) : Int) i) (fun r => r = left out (go b (sizes.drop i)))
  | 0, i, b, out, h, hbl, hb, ho => by
    apply Ev.succ
    simp only [f84_pack_Get_L3]
    exact Ev.neg (by simp; omega) (Ev.some (by rw [List.drop_eq_nil_of_le (by omega)]; simp [go, left]))
  | k + 1, i, b, out, h, hbl, hb, ho => by
    apply Ev.succ
    simp only [f84_pack_Get_L3]
    have hi : i < sizes.length := by omega
    rw [drop_cons hi 0, Int.toNat_natCast]
    generalize sizes.getD i 0 = s
    simp only [go]
    refine Ev.pos (by simp; omega) (Ev.guard (by omega) (Ev.ite (fun h1 => ?_) (fun h1 => Ev.ite (fun h2 => ?_) (fun h2 => Ev.ite (fun h3 => ?_) (fun h3 => ?_)))))
    · simp only [decide_eq_true_eq] at h1
      exact Ev.some (by rw [if_neg (by omega)]; rfl)
    · simp only [decide_eq_true_eq] at h1 h2
      exact Ev.some (by rw [if_neg (by omega)]; rfl)
    · simp only [decide_eq_true_eq] at h1 h2 h3
      exact Ev.some (by rw [if_neg (by omega)]; rfl)
    · simp only [decide_eq_true_eq] at h1 h2 h3
      have htl : (b.take s.toNat).length = s.toNat := by simp; omega
      refine Ev.guard (by simp [cutOk]; omega) (Ev.bind (inner b out s sizes _ _ (b.take s.toNat) (by omega) (hb.take _) (b.take s.toNat).length 0 0 (by omega)) ?_)
      rintro _ rfl
      dsimp only
      refine Ev.guard (by simp [maxLen]; omega) (Ev.guard (by simp [cutOk]; omega) ?_)
      rw [i64_id (show -9223372036854775808 ≤ (i : Int) + 1 by omega) (by omega), show (i : Int) + 1 = ((i + 1 : Nat) : Int) by omega, if_pos (by omega), List.take_length]
      refine (gets sizes hs k (i + 1) (b.drop s.toNat) (out ++ [num (b.take s.toNat)]) (by omega) (by simp; omega) (hb.drop _) (by simp; omega)).mono ?_
      rintro _ rfl
      exact left_map _ _ _

theorem refGet (b : List Int) (hbl : b.length ≤ 4096) (hb : Bytes b) (s : Int) : Ev (fun n => f125_broughamref02_Get n b s) (fun r => r = if 1 ≤ s ∧ s ≤ 8 ∧ s ≤ b.length then (num (b.take s.toNat), b.drop s.toNat, true) else (0, [], false)) := by
  simp only [f125_broughamref02_Get]
  refine Ev.ite (fun h1 => ?_) (fun h1 => Ev.ite (fun h2 => ?_) (fun h2 => Ev.ite (fun h3 => ?_) (fun h3 => ?_)))
  · simp only [decide_eq_true_eq] at h1
    exact Ev.some (by rw [if_neg (by omega)])
  · simp only [decide_eq_true_eq] at h1 h2
    exact Ev.some (by rw [if_neg (by omega)])
  · simp only [decide_eq_true_eq] at h1 h2 h3
    exact Ev.some (by rw [if_neg (by omega)])
  · simp only [decide_eq_true_eq] at h1 h2 h3
    have := refInner b s.toNat (by omega) (by omega) hb s.toNat 0 0 (by omega)
    rw [show ((s.toNat : Nat) : Int) = s by omega] at this
    refine Ev.bind this ?_
    rintro _ rfl
    dsimp only
    exact Ev.guard (by simp [cutOk]; omega) (Ev.some (by rw [if_pos (by omega), List.take_length]; rfl))

theorem refGets (sizes : List Int) (hs : sizes.length ≤ 200) : ∀ (k i : Nat) (b out : List Int), i + k = sizes.length → b.length ≤ 4096 → Bytes b → out.length ≤ i →
    Ev (fun n => f85_broughamref02_All_L3 n b sizes out i) (fun r => r = left out (go b (sizes.drop i)))
  | 0, i, b, out, h, hbl, hb, ho => by
    apply Ev.succ
    simp only [f85_broughamref02_All_L3]
    exact Ev.neg (by simp; omega) (Ev.some (by rw [List.drop_eq_nil_of_le (by omega)]; simp [go, left]))
  | k + 1, i, b, out, h, hbl, hb, ho => by
    apply Ev.succ
    simp only [f85_broughamref02_All_L3]
    have hi : i < sizes.length := by omega
    rw [drop_cons hi 0, Int.toNat_natCast]
    generalize sizes.getD i 0 = s
    simp only [go]
    refine Ev.pos (by simp; omega) (Ev.guard (by omega) (Ev.bind (refGet b hbl hb s) ?_))
    rintro _ rfl
    by_cases hc : 1 ≤ s ∧ s ≤ 8 ∧ s ≤ b.length
    · simp only [if_pos hc]
      refine Ev.neg (by simp) (Ev.guard (by simp [maxLen]; omega) ?_)
      rw [i64_id (show -9223372036854775808 ≤ (i : Int) + 1 by omega) (by omega), show (i : Int) + 1 = ((i + 1 : Nat) : Int) by omega]
      refine (refGets sizes hs k (i + 1) (b.drop s.toNat) (out ++ [num (b.take s.toNat)]) (by omega) (by simp; omega) (hb.drop _) (by simp; omega)).mono ?_
      rintro _ rfl
      exact left_map _ _ _
    · simp only [if_neg hc]
      exact Ev.pos (by simp) (Ev.some rfl)

def ans (o : Option (List Int × List Int)) : List Int × List Int × Bool := match o with
  | none => ([], [], false)
  | some p => (p.1, p.2, true)

theorem go_len : ∀ (l b : List Int) (p : List Int × List Int), go b l = some p → p.2.length ≤ b.length ∧ p.1.length = l.length
  | [], b, p, h => by simp [go] at h; subst h; simp
  | s :: r, b, p, h => by
    simp only [go] at h
    split at h
    · obtain ⟨q, h1, rfl⟩ := Option.map_eq_some_iff.1 h
      have := go_len r _ q h1
      simp at this ⊢; omega
    · cases h

theorem get_is (b sizes : List Int) (hbl : b.length ≤ 4096) (hb : Bytes b) (hs : sizes.length ≤ 200) : Ev (fun n => f84_pack_Get n b sizes) (fun r => r = ans (go b sizes)) := by
  simp only [f84_pack_Get]
  refine Ev.bind (gets sizes hs sizes.length 0 b [] (by omega) hbl hb (by simp)) ?_
  rintro _ rfl
  rw [List.drop_zero]
  cases h : go b sizes with
  | none => exact Ev.some rfl
  | some p =>
    have := go_len _ _ _ h
    exact Ev.guard (by simp [maxLen]; omega) (Ev.some rfl)
theorem all_is (b sizes : List Int) (hbl : b.length ≤ 4096) (hb : Bytes b) (hs : sizes.length ≤ 200) : Ev (fun n => f85_broughamref02_All n b sizes) (fun r => r = ans (go b sizes)) := by
  simp only [f85_broughamref02_All]
  refine Ev.bind (refGets sizes hs sizes.length 0 b [] (by omega) hbl hb (by simp)) ?_
  rintro _ rfl
  rw [List.drop_zero]
  cases h : go b sizes with
  | none => exact Ev.some rfl
  | some p => exact Ev.some rfl
theorem packAll_is (b sizes : List Int) (hbl : b.length ≤ 4096) (hb : Bytes b) (hs : sizes.length ≤ 200) : Ev (fun n => f83_pack_All n b sizes) (fun r => r = if (ans (go b sizes)).2.2 = true ∧ (ans (go b sizes)).2.1 = [] then ((ans (go b sizes)).1, true) else ([], false)) := by
  simp only [f83_pack_All]
  refine Ev.bind (get_is b sizes hbl hb hs) ?_
  rintro _ rfl
  generalize ans (go b sizes) = w
  obtain ⟨x, y, z⟩ := w
  refine Ev.ite (fun h => Ev.some (by simp at h; simp [h])) (fun h => Ev.ite (fun h2 => Ev.some (by cases y <;> simp at h2 ⊢)) (fun h2 => Ev.some (by cases y <;> simp at h h2 ⊢; exact h)))

/-- The lowest bytes of a number, the highest first. -/
def be : Nat → Int → List Int
  | 0, _ => []
  | s + 1, v => be s (v / 256) ++ [v % 256]
theorem be_len : ∀ (s : Nat) (v : Int), (be s v).length = s
  | 0, _ => rfl
  | s + 1, v => by simp [be, be_len s]
theorem be_cons : ∀ (s : Nat) (v : Int), be (s + 1) v = (v / 256 ^ s % 256) :: be s v
  | 0, v => by simp [be]
  | s + 1, v => by
    rw [be, be_cons s (v / 256)]
    have : v / 256 / 256 ^ s = v / 256 ^ (s + 1) := by
      rw [Int.ediv_ediv_of_nonneg (by decide), Int.pow_succ, Int.mul_comm]
    rw [this]
    rfl
def fieldB (f : Int × Int) : List Int := if 1 ≤ f.1 ∧ f.1 ≤ 8 then be f.1.toNat f.2 else []
def enc (l : List (Int × Int)) : List Int := l.flatMap fieldB
theorem fieldB_len (f : Int × Int) : (fieldB f).length ≤ 8 := by
  unfold fieldB; split
  · rw [be_len]; omega
  · simp
theorem enc_len (l : List (Int × Int)) : (enc l).length ≤ 8 * l.length := by
  induction l with
  | nil => simp [enc]
  | cons f l ih => simp only [enc, List.flatMap_cons, List.length_append, List.length_cons] at ih ⊢; have := fieldB_len f; omega
theorem pow256 (s : Nat) : (2 : Int) ^ (8 * s) = 256 ^ s := by rw [Int.pow_mul]; rfl

theorem puts1 (t11 : List (Int × Int)) (t12 t13 f0 v : Int) (hv : 0 ≤ v) : ∀ (s : Nat) (out : List Int), s ≤ 8 → out.length + s ≤ 10000 →
    Ev (fun n => f78_pack_Put_L7 n out ((s : Int) - 1) t11 t12 t13 f0 v) (fun r => r = (out ++ be s v, t11, t12, t13))
  | 0, out, hs, hl => by
    apply Ev.succ
    simp only [f78_pack_Put_L7]
    exact Ev.neg (by simp) (Ev.some (by simp [be]))
  | s + 1, out, hs, hl => by
    apply Ev.succ
    simp only [f78_pack_Put_L7]
    have e : ((s + 1 : Nat) : Int) - 1 = s := by omega
    rw [e, i64_id (show -9223372036854775808 ≤ 8 * (s : Int) by omega) (by omega), i64_id (show -9223372036854775808 ≤ (s : Int) - 1 by omega) (by omega)]
    have e2 : min (8 * (s : Int)).toNat (IntKind.bits .u64) = 8 * s := by simp [IntKind.bits]; omega
    have e3 : IntKind.wrap .u8 (Int.fdiv v (2 ^ (8 * s))) = v / 256 ^ s % 256 := by rw [pow256, fdiv_e (Int.pow_nonneg (by decide)), w_u8]
    rw [e2, e3]
    refine Ev.pos (by simp) (Ev.guard (by omega) (Ev.guard (by simp [maxLen]; omega) ?_))
    refine (puts1 t11 t12 t13 f0 v hv s _ (by omega) (by simp; omega)).mono ?_
    rintro _ rfl
    rw [be_cons]; simp

theorem puts (l : List (Int × Int)) (hl : l.length ≤ 200) (hv : ∀ f ∈ l, 0 ≤ f.2) : ∀ (k i : Nat) (out : List Int), i + k = l.length → out.length ≤ 5000 + 8 * i →
    Ev (fun n => f78_pack_Put_L3 n out l ((l.length : Nat) : Int) i) (fun r => r = out ++ enc (l.drop i))
  | 0, i, out, h, ho => by
    apply Ev.succ
    simp only [f78_pack_Put_L3]
    exact Ev.neg (by simp; omega) (Ev.some (by rw [List.drop_eq_nil_of_le (by omega)]; simp [enc]))
  | k + 1, i, out, h, ho => by
    apply Ev.succ
    simp only [f78_pack_Put_L3]
    have hi : i < l.length := by omega
    have hf := hv _ (getD_mem hi (0, 0))
    rw [drop_cons hi (0, 0), Int.toNat_natCast]
    generalize l.getD i (0, 0) = f at hf
    obtain ⟨s, v⟩ := f
    dsimp only at hf ⊢
    have hfl := fieldB_len (s, v)
    have ih := fun (out' : List Int) ho' => puts l hl hv k (i + 1) out' (by omega) ho'
    have e : enc ((s, v) :: l.drop (i + 1)) = fieldB (s, v) ++ enc (l.drop (i + 1)) := by simp [enc]
    rw [e, i64_id (show -9223372036854775808 ≤ (i : Int) + 1 by omega) (by omega), show (i : Int) + 1 = ((i + 1 : Nat) : Int) by omega]
    refine Ev.pos (by simp; omega) (Ev.guard (by omega) (Ev.ite (fun h1 => ?_) (fun h1 => Ev.ite (fun h2 => ?_) (fun h2 => ?_))))
    · simp only [decide_eq_true_eq] at h1
      refine (ih out (by omega)).mono ?_
      rintro _ rfl
      rw [fieldB, if_neg (by simp; omega)]; rfl
    · simp only [decide_eq_true_eq] at h1 h2
      refine (ih out (by omega)).mono ?_
      rintro _ rfl
      rw [fieldB, if_neg (by simp; omega)]; rfl
    · simp only [decide_eq_true_eq] at h1 h2
      have := puts1 l ((l.length : Nat) : Int) i s v hf s.toNat out (by omega) (by omega)
      rw [show ((s.toNat : Nat) : Int) = s by omega] at this
      rw [i64_id (show -9223372036854775808 ≤ s - 1 by omega) (by omega)]
      refine Ev.bind this ?_
      rintro _ rfl
      dsimp only
      have e4 : fieldB (s, v) = be s.toNat v := by rw [fieldB, if_pos (by simp; omega)]
      rw [i64_id (show -9223372036854775808 ≤ (i : Int) + 1 by omega) (by omega), show (i : Int) + 1 = ((i + 1 : Nat) : Int) by omega]
      refine (ih (out ++ be s.toNat v) (by rw [List.length_append, be_len]; omega)).mono ?_
      rintro _ rfl
      rw [e4, List.append_assoc]

theorem put_is (b : List Int) (l : List (Int × Int)) (hb : b.length ≤ 4096) (hl : l.length ≤ 200) (hv : ∀ f ∈ l, 0 ≤ f.2) : Ev (fun n => f78_pack_Put n b l) (fun r => r = b ++ enc l) := by
  simp only [f78_pack_Put]
  refine Ev.guard (by simp [maxLen]; omega) (Ev.bind (puts l hl hv l.length 0 b (by omega) (by omega)) ?_)
  rintro _ rfl
  exact Ev.some rfl

theorem refPut2 : ∀ (s : Nat) (v : Int), s ≤ 8 → 0 ≤ v ∧ v < 18446744073709551616 → Ev (fun n => f82_broughamref02_Put n v (s : Int)) (fun r => r = be s v)
  | 0, v, hs, hv => by
    apply Ev.succ
    simp only [f82_broughamref02_Put]
    exact Ev.pos (by simp) (Ev.some (by simp [be]))
  | s + 1, v, hs, hv => by
    apply Ev.succ
    simp only [f82_broughamref02_Put]
    rw [tdiv_e hv.1, tmod_e hv.1, u64_id (by omega) (by omega), i64_id (by omega) (by omega), u8_id (by omega) (by omega), show ((s + 1 : Nat) : Int) - 1 = s by omega]
    refine Ev.neg (by simp; omega) (Ev.neg (by simp; omega) (Ev.bind (refPut2 s (v / 256) (by omega) (by omega)) ?_))
    rintro _ rfl
    have := be_len s (v / 256)
    exact Ev.guard (by simp [maxLen]; omega) (Ev.some (by simp [be]))

abbrev U64 (x : Int) : Prop := 0 ≤ x ∧ x < 18446744073709551616
abbrev U32 (x : Int) : Prop := 0 ≤ x ∧ x < 4294967296
abbrev U8 (x : Int) : Prop := 0 ≤ x ∧ x < 256
theorem be_bytes : ∀ (s : Nat) (v : Int), Bytes (be s v)
  | 0, _ => Bytes.nil
  | s + 1, v => (be_bytes s (v / 256)).append (Bytes.cons (by omega) Bytes.nil)
theorem be1 {x : Int} (h : U8 x) : be 1 x = [x] := by simp [be]; omega
def bit (b : Bool) : Int := if b then 1 else 0
theorem bit_in (b : Bool) : U8 (bit b) := by cases b <;> decide
theorem enc_cons (s : Int) (v : Int) (l : List (Int × Int)) : enc ((s, v) :: l) = fieldB (s, v) ++ enc l := by simp [enc]
theorem f1 (v : Int) : fieldB (1, v) = be 1 v := rfl
theorem f4 (v : Int) : fieldB (4, v) = be 4 v := rfl
theorem f8 (v : Int) : fieldB (8, v) = be 8 v := rfl

def keyB (a : Int) (b : Bool) (c : Int) : List Int := be 8 a ++ if b then be 8 c else []
def joinB (a b c : Int) (d e : Bool) (f : Int) : List Int := be 4 a ++ be 4 b ++ [c] ++ [bit d] ++ if e then be 8 f else []
def dataB (a b : Bool) (c d e f : Int) : List Int := [bit a + 2 * bit b] ++ be 8 c ++ be 8 d ++ be 4 e ++ be 8 f
theorem dbit_in (a b : Bool) : U8 (bit a + 2 * bit b) := by cases a <;> cases b <;> decide
def wordB (a b c : Int) (d : Bool) (e : Int) : List Int := be 4 a ++ [b, c] ++ [bit d] ++ be 8 e
theorem num_in (l : List Int) (hl : l.length ≤ 8) (hb : Bytes l) : 0 ≤ num l ∧ num l < 256 ^ l.length := by
  have gen : ∀ (l : List Int) (x : Int), Bytes l → 0 ≤ x → (x + 1) * 256 ^ l.length ≤ 18446744073709551616 → 0 ≤ l.foldl st x ∧ l.foldl st x < (x + 1) * 256 ^ l.length := by
    intro l
    induction l with
    | nil => intro x _ h0 h1; simp at h1 ⊢; omega
    | cons c l ih =>
      intro x hb h0 h1
      have hc := hb.head
      rw [List.length_cons, Int.pow_succ, Int.mul_comm (256 ^ l.length) 256, ← Int.mul_assoc] at h1
      have hp : 1 ≤ (256 : Int) ^ l.length := Int.pow_pos (by decide)
      have hx : (x + 1) * 256 ≤ 18446744073709551616 := by
        have := Int.mul_le_mul_of_nonneg_left hp (show 0 ≤ (x + 1) * 256 by omega)
        omega
      have e : st x c = x * 256 + c := by unfold st; omega
      rw [List.foldl_cons, e]
      have hm : (x * 256 + c + 1) * 256 ^ l.length ≤ (x + 1) * 256 * 256 ^ l.length := Int.mul_le_mul_of_nonneg_right (by omega) (by omega)
      obtain ⟨i1, i2⟩ := ih (x * 256 + c) hb.tail (by omega) (by omega)
      refine ⟨i1, ?_⟩
      rw [List.length_cons, Int.pow_succ, Int.mul_comm (256 ^ l.length) 256, ← Int.mul_assoc]
      omega
  have hp : (256 : Int) ^ l.length ≤ 256 ^ 8 := by
    have := Nat.pow_le_pow_right (n := 256) (by decide) hl
    have := Int.ofNat_le.2 this
    rw [Int.natCast_pow, Int.natCast_pow] at this
    exact this
  have := gen l 0 hb (by omega) (by rw [show (256 : Int) ^ 8 = 18446744073709551616 by decide] at hp; omega)
  unfold num
  simpa using this

/-- What is read of five sizes, or four. -/
theorem go4 {b : List Int} {a1 a2 a3 a4 : Int} {p : List Int × List Int} (h : go b [a1, a2, a3, a4] = some p) : ∃ x1 x2 x3 x4, p.1 = [x1, x2, x3, x4] := by
  have := (go_len _ _ _ h).2
  match hp : p.1, this with
  | [x1, x2, x3, x4], _ => exact ⟨x1, x2, x3, x4, rfl⟩
theorem go5 {b : List Int} {a1 a2 a3 a4 a5 : Int} {p : List Int × List Int} (h : go b [a1, a2, a3, a4, a5] = some p) : ∃ x1 x2 x3 x4 x5, p.1 = [x1, x2, x3, x4, x5] := by
  have := (go_len _ _ _ h).2
  match hp : p.1, this with
  | [x1, x2, x3, x4, x5], _ => exact ⟨x1, x2, x3, x4, x5, rfl⟩
theorem go_first {b : List Int} {a : Int} {l : List Int} {p : List Int × List Int} (hb : Bytes b) (h : go b (a :: l) = some p) : ∃ r, p.1 = num (b.take a.toNat) :: r ∧ 1 ≤ a ∧ a ≤ 8 ∧ a ≤ b.length := by
  simp only [go] at h
  split at h
  · rename_i hc
    obtain ⟨q, _, rfl⟩ := Option.map_eq_some_iff.1 h
    exact ⟨q.1, rfl, hc.1, hc.2.1, hc.2.2⟩
  · cases h

theorem go_8 (b : List Int) : go b [8] = if 8 ≤ b.length then some ([num (b.take 8)], b.drop 8) else none := by
  simp only [go]
  by_cases h : (8 : Int) ≤ b.length
  · rw [if_pos (by omega), if_pos (by omega)]; rfl
  · rw [if_neg (by omega), if_neg (by omega)]
theorem go_88 (b : List Int) : go b [8, 8] = if 16 ≤ b.length then some ([num (b.take 8), num ((b.drop 8).take 8)], b.drop 16) else none := by
  rw [go, go_8]
  by_cases h : (8 : Int) ≤ b.length
  · rw [if_pos (by omega)]
    by_cases h2 : 16 ≤ b.length
    · rw [if_pos (by simp; omega), if_pos h2]; simp
    · rw [if_neg (by simp; omega), if_neg h2]; rfl
  · rw [if_neg (by omega), if_neg (by omega)]

def pkey (k : Int) (b : List Int) : Bool × Int × Bool × Int :=
  if k = 1 then if b.length = 8 then (true, num (b.take 8), false, 0) else if b.length = 16 then (true, num (b.take 8), true, num ((b.drop 8).take 8)) else (false, 0, false, 0) else (false, 0, false, 0)
theorem pkey_is (k : Int) (b : List Int) (hb : Bytes b) (hl : b.length ≤ 400) : Ev (fun n => f107_opt_ParseKey n k b) (fun r => r = pkey k b) := by
  simp only [f107_opt_ParseKey]
  unfold pkey
  by_cases hk : k = 1
  · subst hk
    rw [if_pos rfl]
    refine Ev.neg (by decide) (Ev.bind (packAll_is b [8] (by omega) hb (by simp)) ?_)
    rintro _ rfl
    rw [go_8]
    by_cases h8 : b.length = 8
    · rw [if_pos (show 8 ≤ b.length by omega), if_pos h8, show b.drop 8 = [] from List.drop_eq_nil_of_le (by omega)]
      simp only [ans, and_self, if_true]
      exact Ev.guard (by simp) (Ev.some rfl)
    · rw [if_neg h8]
      have e1 : (if (ans (if 8 ≤ b.length then some ([num (b.take 8)], b.drop 8) else none)).2.2 = true ∧ (ans (if 8 ≤ b.length then some ([num (b.take 8)], b.drop 8) else none)).2.1 = [] then ((ans (if 8 ≤ b.length then some ([num (b.take 8)], b.drop 8) else none)).1, true) else ([], false)) = ([], false) := by
        by_cases h : 8 ≤ b.length
        · rw [if_pos h, if_neg]
          simp only [ans, true_and]
          intro h2; have := congrArg List.length h2; simp at this; omega
        · rw [if_neg h]; rfl
      rw [e1]
      refine Ev.neg (by decide) (Ev.bind (packAll_is b [8, 8] (by omega) hb (by simp)) ?_)
      rintro _ rfl
      rw [go_88]
      by_cases h16 : b.length = 16
      · rw [if_pos (show 16 ≤ b.length by omega), if_pos h16, show b.drop 16 = [] from List.drop_eq_nil_of_le (by omega)]
        simp only [ans, and_self, if_true]
        exact Ev.neg (by decide) (Ev.guard (by simp) (Ev.guard (by simp) (Ev.some rfl)))
      · rw [if_neg h16]
        refine Ev.pos ?_ (Ev.some rfl)
        by_cases h : 16 ≤ b.length
        · rw [if_pos h, if_neg]
          · rfl
          · simp only [ans, true_and]
            intro h2; have := congrArg List.length h2; simp at this; omega
        · rw [if_neg h]; rfl
  · rw [if_neg hk]
    exact Ev.pos (by simpa using hk) (Ev.some rfl)
theorem refPkey_is (k : Int) (b : List Int) (hb : Bytes b) (hl : b.length ≤ 400) : Ev (fun n => f116_broughamref08_ParseKey n k b) (fun r => r = ((pkey k b).2.1, (pkey k b).2.2.2, (pkey k b).2.2.1, (pkey k b).1)) := by
  simp only [f116_broughamref08_ParseKey]
  unfold pkey
  by_cases hk : k = 1
  · subst hk
    rw [if_pos rfl]
    refine Ev.neg (by decide) (Ev.ite (fun h8 => Ev.ite (fun h16 => ?_) (fun h16 => ?_)) (fun h8 => ?_))
    · have h8' : ¬ b.length = 8 := by simp [bne] at h8; omega
      have h16' : ¬ b.length = 16 := by simp [bne] at h16; omega
      rw [if_neg h8', if_neg h16']
      exact Ev.some rfl
    · have h8' : ¬ b.length = 8 := by simp [bne] at h8; omega
      have h16' : b.length = 16 := by simp [bne] at h16; omega
      rw [if_neg h8', if_pos h16']
      refine Ev.bind (refGet b (by omega) hb 8) ?_
      rintro _ rfl
      rw [if_pos (by omega)]
      refine Ev.bind (refGet _ (by simp; omega) (hb.drop _) 8) ?_
      rintro _ rfl
      rw [if_pos (by simp; omega)]
      exact Ev.some rfl
    · have h8' : b.length = 8 := by simp [bne] at h8; omega
      rw [if_pos h8']
      refine Ev.bind (refGet b (by omega) hb 8) ?_
      rintro _ rfl
      rw [if_pos (by omega)]
      refine Ev.bind (refGet _ (by simp; omega) (hb.drop _) 8) ?_
      rintro _ rfl
      rw [if_neg (by simp; omega)]
      exact Ev.some rfl
  · rw [if_neg hk]
    exact Ev.pos (by simpa using hk) (Ev.some rfl)

def pjoin (k : Int) (b : List Int) : Bool × Int × Int × Int × Bool × Bool × Int :=
  if k = 2 then match go b [4, 4, 1, 1] with
    | some ([x1, x2, x3, x4], r) => if x4 > 1 then (false, 0, 0, 0, false, false, 0) else if r.length = 0 then (true, IntKind.wrap .u32 x1, IntKind.wrap .u32 x2, IntKind.wrap .u8 x3, x4 == 1, false, 0)
      else if r.length = 8 then (true, IntKind.wrap .u32 x1, IntKind.wrap .u32 x2, IntKind.wrap .u8 x3, x4 == 1, true, num (r.take 8)) else (false, 0, 0, 0, false, false, 0)
    | _ => (false, 0, 0, 0, false, false, 0)
  else (false, 0, 0, 0, false, false, 0)
theorem go_bytes : ∀ (l b : List Int) (p : List Int × List Int), go b l = some p → Bytes b → Bytes p.2
  | [], b, p, h, hb => by cases h; exact hb
  | s :: l, b, p, h, hb => by
    simp only [go] at h
    split at h
    · obtain ⟨q, h1, rfl⟩ := Option.map_eq_some_iff.1 h
      exact go_bytes l _ q h1 (hb.drop _)
    · cases h
theorem pjoin_is (k : Int) (b : List Int) (hb : Bytes b) (hl : b.length ≤ 400) : Ev (fun n => f109_opt_ParseJoin n k b) (fun r => r = pjoin k b) := by
  simp only [f109_opt_ParseJoin]
  refine Ev.bind (get_is b [4, 4, 1, 1] (by omega) hb (by simp)) ?_
  rintro _ rfl
  unfold pjoin
  refine Ev.ite (fun h => ?_) (fun h => ?_)
  · have hk : ¬ k = 2 := by simpa [bne] using h
    rw [if_neg hk]; exact Ev.some rfl
  · have hk : k = 2 := by simpa [bne] using h
    rw [if_pos hk]
    cases hg : go b [4, 4, 1, 1] with
    | none => exact Ev.pos rfl (Ev.some rfl)
    | some p =>
      obtain ⟨x1, x2, x3, x4, hp⟩ := go4 hg
      have hB := go_bytes _ _ _ hg hb
      have hL := (go_len _ _ _ hg).1
      obtain ⟨q, r⟩ := p
      dsimp only at hp hB hL
      subst hp
      simp only [ans]
      refine Ev.neg (by decide) (Ev.guard (by simp) (Ev.ite (fun h4 => ?_) (fun h4 => ?_)))
      · have h4' : x4 > 1 := by simpa [List.getD] using h4
        rw [if_pos h4']; exact Ev.some rfl
      · have h4' : ¬ x4 > 1 := by simpa [List.getD] using h4
        rw [if_neg h4']
        refine Ev.guard (by simp) (Ev.guard (by simp) (Ev.guard (by simp) (Ev.guard (by simp) (Ev.ite (fun h0 => ?_) (fun h0 => ?_)))))
        · have h0' : r.length = 0 := by simp at h0; simp [h0]
          rw [if_pos h0']; exact Ev.some rfl
        · have h0' : ¬ r.length = 0 := by simp at h0; simpa using h0
          rw [if_neg h0']
          refine Ev.bind (packAll_is r [8] (by omega) hB (by simp)) ?_
          rintro _ rfl
          rw [go_8]
          by_cases h8 : r.length = 8
          · rw [if_pos (show 8 ≤ r.length by omega), if_pos h8, show r.drop 8 = [] from List.drop_eq_nil_of_le (by omega)]
            simp only [ans, and_self, if_true]
            exact Ev.neg (by decide) (Ev.guard (by simp) (Ev.some rfl))
          · rw [if_neg h8]
            refine Ev.pos ?_ (Ev.some rfl)
            by_cases h : 8 ≤ r.length
            · rw [if_pos h, if_neg]
              · rfl
              · simp only [ans, true_and]
                intro h2; have := congrArg List.length h2; simp at this; omega
            · rw [if_neg h]; rfl
theorem refPjoin_is (k : Int) (b : List Int) (hb : Bytes b) (hl : b.length ≤ 400) : Ev (fun n => f117_broughamref08_ParseJoin n k b) (fun r => r = pjoin k b) := by
  simp only [f117_broughamref08_ParseJoin]
  refine Ev.bind (all_is b [4, 4, 1, 1] (by omega) hb (by simp)) ?_
  rintro _ rfl
  unfold pjoin
  refine Ev.ite (fun h => ?_) (fun h => ?_)
  · have hk : ¬ k = 2 := by simpa [bne] using h
    rw [if_neg hk]; exact Ev.some rfl
  · have hk : k = 2 := by simpa [bne] using h
    rw [if_pos hk]
    cases hg : go b [4, 4, 1, 1] with
    | none => exact Ev.pos rfl (Ev.some rfl)
    | some p =>
      obtain ⟨x1, x2, x3, x4, hp⟩ := go4 hg
      have hB := go_bytes _ _ _ hg hb
      have hL := (go_len _ _ _ hg).1
      obtain ⟨q, r⟩ := p
      dsimp only at hp hB hL
      subst hp
      simp only [ans]
      refine Ev.neg (by decide) (Ev.guard (by simp) (Ev.ite (fun h4 => ?_) (fun h4 => ?_)))
      · have h4' : x4 > 1 := by simpa [List.getD] using h4
        rw [if_pos h4']; exact Ev.some rfl
      · have h4' : ¬ x4 > 1 := by simpa [List.getD] using h4
        rw [if_neg h4']
        refine Ev.ite (fun h0 => Ev.ite (fun h8 => ?_) (fun h8 => ?_)) (fun h0 => ?_)
        · have h0' : ¬ r.length = 0 := by simp [bne] at h0; simpa using h0
          have h8' : ¬ r.length = 8 := by simp [bne] at h8; omega
          rw [if_neg h0', if_neg h8']; exact Ev.some rfl
        · have h0' : ¬ r.length = 0 := by simp [bne] at h0; simpa using h0
          have h8' : r.length = 8 := by simp [bne] at h8; omega
          rw [if_neg h0', if_pos h8']
          refine Ev.guard (by simp) (Ev.guard (by simp) (Ev.guard (by simp) (Ev.guard (by simp) (Ev.bind (refGet r (by omega) hB 8) ?_))))
          rintro _ rfl
          rw [if_pos (by omega)]
          exact Ev.some rfl
        · have h0' : r.length = 0 := by simp [bne] at h0; simp [h0]
          rw [if_pos h0']
          refine Ev.guard (by simp) (Ev.guard (by simp) (Ev.guard (by simp) (Ev.guard (by simp) (Ev.bind (refGet r (by omega) hB 8) ?_))))
          rintro _ rfl
          rw [if_neg (by omega)]
          exact Ev.some rfl

def pdata (k : Int) (b : List Int) : Bool × Bool × Bool × Int × Int × Int × Int :=
  if k = 3 then match go b [1, 8, 8, 4, 8] with
    | some ([x1, x2, x3, x4, x5], []) => if x1 > 3 then (false, false, false, 0, 0, 0, 0) else (true, x1 % 2 == 1, decide (x1 > 1), x2, x3, IntKind.wrap .u32 x4, x5)
    | _ => (false, false, false, 0, 0, 0, 0)
  else (false, false, false, 0, 0, 0, 0)
theorem first_in {b : List Int} {a : Int} {l : List Int} {x : Int} {r : List Int} {q : List Int} (hb : Bytes b) (h : go b (a :: l) = some (x :: r, q)) : 0 ≤ x := by
  obtain ⟨r', h1, h2, h3, h4⟩ := go_first hb h
  simp only [List.cons.injEq] at h1
  rw [h1.1]
  exact (num_in _ (by simp; omega) (hb.take _)).1
theorem pdata_is (k : Int) (b : List Int) (hb : Bytes b) (hl : b.length ≤ 400) : Ev (fun n => f111_opt_ParseData n k b) (fun r => r = pdata k b) := by
  simp only [f111_opt_ParseData]
  refine Ev.bind (packAll_is b [1, 8, 8, 4, 8] (by omega) hb (by simp)) ?_
  rintro _ rfl
  unfold pdata
  refine Ev.ite (fun h => ?_) (fun h => ?_)
  · have hk : ¬ k = 3 := by simpa [bne] using h
    rw [if_neg hk]; exact Ev.some rfl
  · have hk : k = 3 := by simpa [bne] using h
    rw [if_pos hk]
    cases hg : go b [1, 8, 8, 4, 8] with
    | none => exact Ev.pos rfl (Ev.some rfl)
    | some p =>
      obtain ⟨x1, x2, x3, x4, x5, hp⟩ := go5 hg
      obtain ⟨q, r⟩ := p
      dsimp only at hp
      subst hp
      have hx := first_in hb hg
      cases r with
      | cons y ys => exact Ev.pos rfl (Ev.some rfl)
      | nil =>
        simp only [ans, and_self, if_true]
        refine Ev.neg (by decide) (Ev.guard (by simp) (Ev.ite (fun h4 => ?_) (fun h4 => ?_)))
        · have h4' : x1 > 3 := by simpa [List.getD] using h4
          rw [if_pos h4']; exact Ev.some rfl
        · have h4' : ¬ x1 > 3 := by simpa [List.getD] using h4
          rw [if_neg h4']
          refine Ev.guard (by simp) (Ev.guard (by simp) (Ev.guard (by simp) (Ev.guard (by simp) (Ev.guard (by simp) (Ev.guard (by simp) (Ev.some ?_))))))
          show (true, ((bits .and .u64 x1 1) == 1), ((bits .and .u64 x1 2) == 2), x2, x3, IntKind.wrap .u32 x4, x5) = _
          have hc : x1 = 0 ∨ x1 = 1 ∨ x1 = 2 ∨ x1 = 3 := by omega
          rcases hc with rfl | rfl | rfl | rfl <;> rfl
theorem refPdata_is (k : Int) (b : List Int) (hb : Bytes b) (hl : b.length ≤ 400) : Ev (fun n => f118_broughamref08_ParseData n k b) (fun r => r = pdata k b) := by
  simp only [f118_broughamref08_ParseData]
  refine Ev.bind (all_is b [1, 8, 8, 4, 8] (by omega) hb (by simp)) ?_
  rintro _ rfl
  unfold pdata
  refine Ev.ite (fun h => ?_) (fun h => ?_)
  · have hk : ¬ k = 3 := by simpa [bne] using h
    rw [if_neg hk]; exact Ev.some rfl
  · have hk : k = 3 := by simpa [bne] using h
    rw [if_pos hk]
    cases hg : go b [1, 8, 8, 4, 8] with
    | none => exact Ev.pos rfl (Ev.some rfl)
    | some p =>
      obtain ⟨x1, x2, x3, x4, x5, hp⟩ := go5 hg
      obtain ⟨q, r⟩ := p
      dsimp only at hp
      subst hp
      have hx := first_in hb hg
      simp only [ans]
      refine Ev.neg (by decide) (Ev.guard (by simp) (Ev.ite (fun h4 => ?_) (fun h4 => ?_)))
      · have h4' : x1 > 3 := by simpa [List.getD] using h4
        cases r with
        | cons y ys => exact Ev.some rfl
        | nil => dsimp only; rw [if_pos h4']; exact Ev.some rfl
      · have h4' : ¬ x1 > 3 := by simpa [List.getD] using h4
        cases r with
        | cons y ys => exact Ev.pos (by simp; omega) (Ev.some rfl)
        | nil =>
          dsimp only
          rw [if_neg h4']
          refine Ev.neg (by decide) (Ev.guard (by simp) (Ev.guard (by simp) (Ev.guard (by simp) (Ev.guard (by simp) (Ev.guard (by simp) (Ev.guard (by simp) (Ev.some ?_)))))))
          show (true, (Int.tmod x1 2 == 1), decide (x1 > 1), x2, x3, IntKind.wrap .u32 x4, x5) = _
          rw [tmod_e hx]

def pword (k : Int) (b : List Int) : Bool × Int × Int × Int × Int × Bool × Int :=
  if 4 ≤ k ∧ k ≤ 7 then match go b [4, 1, 1, 1, 8] with
    | some ([x1, x2, x3, x4, x5], []) => if x4 > 1 then (false, 0, 0, 0, 0, false, 0) else (true, k, IntKind.wrap .u32 x1, IntKind.wrap .u8 x2, IntKind.wrap .u8 x3, x4 == 1, x5)
    | _ => (false, 0, 0, 0, 0, false, 0)
  else (false, 0, 0, 0, 0, false, 0)
theorem pword_is (k : Int) (b : List Int) (hb : Bytes b) (hl : b.length ≤ 400) : Ev (fun n => f113_opt_ParseWord n k b) (fun r => r = pword k b) := by
  simp only [f113_opt_ParseWord]
  refine Ev.bind (packAll_is b [4, 1, 1, 1, 8] (by omega) hb (by simp)) ?_
  rintro _ rfl
  unfold pword
  refine Ev.ite (fun h => ?_) (fun h => Ev.ite (fun h2 => ?_) (fun h2 => ?_))
  · simp only [decide_eq_true_eq] at h
    rw [if_neg (show ¬ (4 ≤ k ∧ k ≤ 7) by omega)]; exact Ev.some rfl
  · simp only [decide_eq_true_eq] at h h2
    rw [if_neg (show ¬ (4 ≤ k ∧ k ≤ 7) by omega)]; exact Ev.some rfl
  · simp only [decide_eq_true_eq] at h h2
    rw [if_pos (show 4 ≤ k ∧ k ≤ 7 by omega)]
    cases hg : go b [4, 1, 1, 1, 8] with
    | none => exact Ev.pos rfl (Ev.some rfl)
    | some p =>
      obtain ⟨x1, x2, x3, x4, x5, hp⟩ := go5 hg
      obtain ⟨q, r⟩ := p
      dsimp only at hp
      subst hp
      cases r with
      | cons y ys => exact Ev.pos rfl (Ev.some rfl)
      | nil =>
        simp only [ans, and_self, if_true]
        refine Ev.neg (by decide) (Ev.guard (by simp) (Ev.ite (fun h4 => ?_) (fun h4 => ?_)))
        · have h4' : x4 > 1 := by simpa [List.getD] using h4
          rw [if_pos h4']; exact Ev.some rfl
        · have h4' : ¬ x4 > 1 := by simpa [List.getD] using h4
          rw [if_neg h4']
          exact Ev.guard (by simp) (Ev.guard (by simp) (Ev.guard (by simp) (Ev.guard (by simp) (Ev.guard (by simp) (Ev.some rfl)))))
theorem refPword_is (k : Int) (b : List Int) (hb : Bytes b) (hl : b.length ≤ 400) : Ev (fun n => f120_broughamref08_ParseWord n k b) (fun r => r = ((pword k b).1, (pword k b).2.2.1, (pword k b).2.2.2.1, (pword k b).2.2.2.2.1, (pword k b).2.2.2.2.2.1, (pword k b).2.2.2.2.2.2)) := by
  simp only [f120_broughamref08_ParseWord]
  refine Ev.bind (all_is b [4, 1, 1, 1, 8] (by omega) hb (by simp)) ?_
  rintro _ rfl
  unfold pword
  refine Ev.ite (fun h => ?_) (fun h => Ev.ite (fun h2 => ?_) (fun h2 => ?_))
  · simp only [decide_eq_true_eq] at h
    rw [if_neg (show ¬ (4 ≤ k ∧ k ≤ 7) by omega)]; exact Ev.some rfl
  · simp only [decide_eq_true_eq] at h h2
    rw [if_neg (show ¬ (4 ≤ k ∧ k ≤ 7) by omega)]; exact Ev.some rfl
  · simp only [decide_eq_true_eq] at h h2
    rw [if_pos (show 4 ≤ k ∧ k ≤ 7 by omega)]
    cases hg : go b [4, 1, 1, 1, 8] with
    | none => exact Ev.pos rfl (Ev.some rfl)
    | some p =>
      obtain ⟨x1, x2, x3, x4, x5, hp⟩ := go5 hg
      obtain ⟨q, r⟩ := p
      dsimp only at hp
      subst hp
      simp only [ans]
      refine Ev.neg (by decide) (Ev.guard (by simp) (Ev.ite (fun h4 => ?_) (fun h4 => ?_)))
      · have h4' : x4 > 1 := by simpa [List.getD] using h4
        cases r with
        | cons y ys => exact Ev.some rfl
        | nil => dsimp only; rw [if_pos h4']; exact Ev.some rfl
      · have h4' : ¬ x4 > 1 := by simpa [List.getD] using h4
        cases r with
        | cons y ys => exact Ev.pos (by simp; omega) (Ev.some rfl)
        | nil =>
          dsimp only
          rw [if_neg h4']
          exact Ev.neg (by decide) (Ev.guard (by simp) (Ev.guard (by simp) (Ev.guard (by simp) (Ev.guard (by simp) (Ev.guard (by simp) (Ev.some rfl))))))
theorem pword_kind (k : Int) (b : List Int) : ((pword k b).1 = true ∧ (pword k b).2.1 = k) ∨ ((pword k b).1 = false ∧ (pword k b).2.1 = 0) := by
  unfold pword
  split
  · split
    · split
      · exact .inr ⟨rfl, rfl⟩
      · exact .inl ⟨rfl, rfl⟩
    · exact .inr ⟨rfl, rfl⟩
  · exact .inr ⟨rfl, rfl⟩

abbrev O := Int × List Int
def flt (k : Int) (l : List O) : List O := l.filter fun o => o.1 == k
def one (k : Int) (l : List O) : Bool × Int × List Int := match flt k l with
  | [o] => (true, o.1, o.2)
  | _ => (false, 0, [])
theorem flt_snoc (k : Int) (l : List O) (o : O) : flt k (l ++ [o]) = if o.1 == k then flt k l ++ [o] else flt k l := by
  unfold flt; rw [List.filter_append]; by_cases h : (o.1 == k) = true <;> simp [h, List.filter]
theorem take_snoc (l : List O) {i : Nat} (h : i < l.length) : l.take (i + 1) = l.take i ++ [l.getD i (0, [])] := by
  rw [List.take_succ_eq_append_getElem h]; simp [List.getD, List.getElem?_eq_getElem h]

def lst (l : List O) : O := l.getLast?.getD (0, [])
theorem lst_snoc (l : List O) (o : O) : lst (l ++ [o]) = o := by simp [lst]

theorem great_is (s0 s1 s2 s3 s4 : Int) (l : List O) (s6 : List Int) : Ev (fun n => f64_broughamlaw07_Great n s0 s1 s2 s3 s4 l s6) (fun r => r = true ∨ (r = false ∧ l.length ≤ 120 ∧ s6.length ≤ 2000 ∧ ∀ o ∈ l, o.2.length ≤ 400)) := by
  have loop : ∀ (m i : Nat), i + m = l.length → l.length ≤ 120 → (∀ o ∈ l.take i, o.2.length ≤ 400) → Ev (fun n => f64_broughamlaw07_Great_L4 n i s0 s1 s2 s3 s4 l s6) (fun r => r = .inl true ∨ (r = .inr () ∧ ∀ o ∈ l, o.2.length ≤ 400)) := by
    intro m
    induction m with
    | zero =>
      intro i h hl hh
      apply Ev.succ
      simp only [f64_broughamlaw07_Great_L4]
      rw [List.take_of_length_le (by omega)] at hh
      exact Ev.neg (by simp; omega) (Ev.some (.inr ⟨rfl, hh⟩))
    | succ m ih =>
      intro i h hl hh
      apply Ev.succ
      simp only [f64_broughamlaw07_Great_L4]
      have hi : i < l.length := by omega
      rw [Int.toNat_natCast, i64_id (show -9223372036854775808 ≤ (i : Int) + 1 by omega) (by omega), show (i : Int) + 1 = ((i + 1 : Nat) : Int) by omega]
      refine Ev.pos (by simp; omega) (Ev.guard (by omega) (Ev.ite (fun _ => Ev.some (.inl rfl)) (fun h2 => ih (i + 1) (by omega) hl ?_)))
      simp only [gt_iff_lt, decide_eq_true_eq] at h2
      rw [take_snoc l hi]
      intro o ho
      rcases List.mem_append.1 ho with h3 | h3
      · exact hh o h3
      · simp only [List.mem_singleton] at h3; subst h3; omega
  simp only [f64_broughamlaw07_Great]
  refine Ev.ite (fun _ => Ev.some (.inl rfl)) (fun h1 => Ev.ite (fun _ => Ev.some (.inl rfl)) (fun h2 => ?_))
  simp only [gt_iff_lt, decide_eq_true_eq] at h1 h2
  refine Ev.bind (loop l.length 0 (by omega) (by omega) (by simp)) ?_
  rintro _ (rfl | ⟨rfl, h⟩)
  · exact Ev.some (.inl rfl)
  · exact Ev.some (.inr ⟨rfl, by omega, by omega, h⟩)

theorem num_be : ∀ (s : Nat) (v : Int), s ≤ 8 → 0 ≤ v ∧ v < 256 ^ s → num (be s v) = v
  | 0, v, _, h => by simp at h; simp [be, num]; omega
  | s + 1, v, hs, h => by
    rw [Int.pow_succ] at h
    have ih := num_be s (v / 256) (by omega) (by omega)
    have hp : (256 : Int) ^ (s + 1) ≤ 18446744073709551616 := by
      have := Nat.pow_le_pow_right (n := 256) (by decide) hs
      have := Int.ofNat_le.2 this
      rw [Int.natCast_pow, Int.natCast_pow] at this
      exact this
    rw [Int.pow_succ] at hp
    unfold num at ih ⊢
    rw [be, List.foldl_append, ih]
    simp only [List.foldl_cons, List.foldl_nil, st]
    omega
theorem be_num : ∀ (l : List Int), Bytes l → l.length ≤ 8 → be l.length (num l) = l := by
  have key : ∀ (s : Nat) (l : List Int), l.length = s → Bytes l → s ≤ 8 → be s (num l) = l := by
    intro s
    induction s with
    | zero => intro l h _ _; rw [List.eq_nil_of_length_eq_zero h]; rfl
    | succ s ih =>
      intro l h hb hs
      have hi : s < l.length := by omega
      have hsp : l = l.take s ++ [l.getD s 0] := by
        have := drop_cons hi 0
        rw [List.drop_eq_nil_of_le (show l.length ≤ s + 1 by omega)] at this
        rw [← this, List.take_append_drop]
      have hx := hb.get s
      have htl : (l.take s).length = s := by simp; omega
      have hin := num_in (l.take s) (by omega) (hb.take _)
      rw [htl] at hin
      have hp : (256 : Int) ^ (s + 1) ≤ 18446744073709551616 := by
        have := Nat.pow_le_pow_right (n := 256) (by decide) hs
        have := Int.ofNat_le.2 this
        rw [Int.natCast_pow, Int.natCast_pow] at this
        exact this
      rw [Int.pow_succ] at hp
      have e : num l = num (l.take s) * 256 + l.getD s 0 := by
        have h1 : num l = st (num (l.take s)) (l.getD s 0) := by
          show List.foldl st 0 l = st (List.foldl st 0 (l.take s)) (l.getD s 0)
          have h2 : List.foldl st 0 l = List.foldl st 0 (l.take s ++ [l.getD s 0]) := by rw [← hsp]
          rw [h2, List.foldl_append]; rfl
        rw [h1]; unfold st; omega
      rw [be, e, show (num (l.take s) * 256 + l.getD s 0) / 256 = num (l.take s) by omega, show (num (l.take s) * 256 + l.getD s 0) % 256 = l.getD s 0 by omega, ih _ htl (hb.take _) (by omega)]
      exact hsp.symm
  exact fun l hb hl => key l.length l rfl hb hl
theorem go_cons {b : List Int} {x : Int} {l : List Int} {v : Int} {r : List Int} {q : List Int} (h : go b (x :: l) = some (v :: r, q)) : 1 ≤ x ∧ x ≤ 8 ∧ x ≤ b.length ∧ v = num (b.take x.toNat) ∧ go (b.drop x.toNat) l = some (r, q) := by
  simp only [go] at h
  split at h
  · rename_i hc
    obtain ⟨p, h1, h2⟩ := Option.map_eq_some_iff.1 h
    simp only [Prod.mk.injEq, List.cons.injEq] at h2
    obtain ⟨⟨h3, h4⟩, h5⟩ := h2
    obtain ⟨p1, p2⟩ := p
    dsimp only at h3 h4 h5
    subst h4; subst h5
    exact ⟨hc.1, hc.2.1, hc.2.2, h3.symm, h1⟩
  · cases h
theorem be_take {b : List Int} (hb : Bytes b) {s : Nat} (hs : s ≤ 8) (hl : s ≤ b.length) : be s (num (b.take s)) = b.take s := by
  have := be_num (b.take s) (hb.take _) (by simp; omega)
  rwa [show (b.take s).length = s by simp; omega] at this
theorem num_take {b : List Int} (hb : Bytes b) {s : Nat} (hs : s ≤ 8) (hl : s ≤ b.length) : 0 ≤ num (b.take s) ∧ num (b.take s) < 256 ^ s := by
  have := num_in (b.take s) (by simp; omega) (hb.take _)
  rwa [show (b.take s).length = s by simp; omega] at this
theorem word_back {k : Int} {b : List Int} (hb : Bytes b) (h : (pword k b).1 = true) : ∃ x1 x2 x3 x4 x5, pword k b = (true, k, x1, x2, x3, x4, x5) ∧ U32 x1 ∧ U8 x2 ∧ U8 x3 ∧ U64 x5 ∧ wordB x1 x2 x3 x4 x5 = b := by
  unfold pword at h
  split at h
  · rename_i hk
    split at h
    · rename_i x1 x2 x3 x4 x5 hg
      split at h
      · cases h
      · rename_i h4
        have hpw : pword k b = (true, k, IntKind.wrap .u32 x1, IntKind.wrap .u8 x2, IntKind.wrap .u8 x3, x4 == 1, x5) := by
          unfold pword; rw [if_pos hk, hg]; dsimp only; rw [if_neg h4]
        rw [hpw]
        clear hpw h
        obtain ⟨_, _, l1, v1, g1⟩ := go_cons hg
        obtain ⟨_, _, l2, v2, g2⟩ := go_cons g1
        obtain ⟨_, _, l3, v3, g3⟩ := go_cons g2
        obtain ⟨_, _, l4, v4, g4⟩ := go_cons g3
        obtain ⟨_, _, l5, v5, g5⟩ := go_cons g4
        clear hg g1 g2 g3 g4
        have hg := g5
        subst v1 v2 v3 v4 v5
        simp only [go, Option.some.injEq, Prod.mk.injEq, true_and] at hg
        simp only [List.length_drop] at l2 l3 l4 l5
        have n1 := num_take hb (s := 4) (by omega) (by omega)
        have n2 := num_take (hb.drop 4) (s := 1) (by omega) (by simp; omega)
        have n3 := num_take ((hb.drop 4).drop 1) (s := 1) (by omega) (by simp; omega)
        have n4 := num_take (((hb.drop 4).drop 1).drop 1) (s := 1) (by omega) (by simp; omega)
        have n5 := num_take ((((hb.drop 4).drop 1).drop 1).drop 1) (s := 8) (by omega) (by simp; omega)
        have c1 := be_take hb (s := 4) (by omega) (by omega)
        have c2 := be_take (hb.drop 4) (s := 1) (by omega) (by simp; omega)
        have c3 := be_take ((hb.drop 4).drop 1) (s := 1) (by omega) (by simp; omega)
        have c4 := be_take (((hb.drop 4).drop 1).drop 1) (s := 1) (by omega) (by simp; omega)
        have c5 := be_take ((((hb.drop 4).drop 1).drop 1).drop 1) (s := 8) (by omega) (by simp; omega)
        have p4 : (256 : Int) ^ 4 = 4294967296 := by decide
        have p1 : (256 : Int) ^ 1 = 256 := by decide
        have p8 : (256 : Int) ^ 8 = 18446744073709551616 := by decide
        rw [p4] at n1; rw [p1] at n2 n3 n4; rw [p8] at n5
        have t4 : Int.toNat 4 = 4 := rfl
        have t1 : Int.toNat 1 = 1 := rfl
        have t8 : Int.toNat 8 = 8 := rfl
        simp only [t4, t1, t8] at h4 hg ⊢
        refine ⟨_, _, _, _, _, rfl, ?_, ?_, ?_, n5, ?_⟩
        · rw [u32_id n1.1 n1.2]; exact n1
        · rw [u8_id n2.1 n2.2]; exact n2
        · rw [u8_id n3.1 n3.2]; exact n3
        · rw [u32_id n1.1 n1.2, u8_id n2.1 n2.2, u8_id n3.1 n3.2]
          unfold wordB
          have hbit : ∀ x : Int, 0 ≤ x → ¬ x > 1 → [bit (x == 1)] = be 1 x := by
            intro x h0 h1
            have : x = 0 ∨ x = 1 := by omega
            rcases this with rfl | rfl <;> rfl
          have hpair : ∀ x y : Int, U8 x → U8 y → [x, y] = be 1 x ++ be 1 y := by
            intro x y hx hy; rw [be1 hx, be1 hy]; rfl
          rw [hbit _ n4.1 h4, hpair _ _ n2 n3, c1, c2, c3, c4, c5]
          have hd := hg
          have e1 : b = b.take 4 ++ (b.drop 4).take 1 ++ ((b.drop 4).drop 1).take 1 ++ (((b.drop 4).drop 1).drop 1).take 1 ++ ((((b.drop 4).drop 1).drop 1).drop 1).take 8 ++ (((((b.drop 4).drop 1).drop 1).drop 1).drop 8) := by
            simp only [List.append_assoc, List.take_append_drop]
          rw [hd, List.append_nil] at e1
          simp only [List.append_assoc] at e1 ⊢
          exact e1.symm
    · cases h
  · cases h

theorem go_be (s : Nat) (v : Int) (r : List Int) (l : List Int) (hs : 1 ≤ s ∧ s ≤ 8) (hv : 0 ≤ v ∧ v < 256 ^ s) : go (be s v ++ r) ((s : Int) :: l) = (go r l).map fun p => (v :: p.1, p.2) := by
  have hl := be_len s v
  rw [go, if_pos (by simp [hl]; omega), Int.toNat_natCast]
  have e1 : (be s v ++ r).take s = be s v := by rw [List.take_append_of_le_length (by omega), List.take_of_length_le (by omega)]
  have e2 : (be s v ++ r).drop s = r := by
    have := List.drop_left (l₁ := be s v) (l₂ := r)
    rwa [hl] at this
  rw [e1, e2, num_be s v hs.2 hv]
theorem p1 : (256 : Int) ^ 1 = 256 := by decide
theorem p4 : (256 : Int) ^ 4 = 4294967296 := by decide
theorem p8 : (256 : Int) ^ 8 = 18446744073709551616 := by decide
theorem data_go (a b : Bool) (c d e f : Int) (hc : U64 c) (hd : U64 d) (he : U32 e) (hf : U64 f) : go (dataB a b c d e f) [1, 8, 8, 4, 8] = some ([bit a + 2 * bit b, c, d, e, f], []) := by
  have h1 := dbit_in a b
  unfold dataB
  rw [← be1 h1]
  simp only [List.append_assoc]
  have g1 := go_be 1 (bit a + 2 * bit b) (be 8 c ++ (be 8 d ++ (be 4 e ++ be 8 f))) [8, 8, 4, 8] (by omega) (by rw [p1]; exact h1)
  have g2 := go_be 8 c (be 8 d ++ (be 4 e ++ be 8 f)) [8, 4, 8] (by omega) (by rw [p8]; exact hc)
  have g3 := go_be 8 d (be 4 e ++ be 8 f) [4, 8] (by omega) (by rw [p8]; exact hd)
  have g4 := go_be 4 e (be 8 f) [8] (by omega) (by rw [p4]; exact he)
  have g5 := go_be 8 f [] [] (by omega) (by rw [p8]; exact hf)
  rw [List.append_nil] at g5
  have c1 : ((1 : Nat) : Int) = 1 := rfl
  have c8 : ((8 : Nat) : Int) = 8 := rfl
  have c4 : ((4 : Nat) : Int) = 4 := rfl
  rw [show ((8 : Nat) : Int) = 8 from rfl] at g2 g3 g5
  rw [show ((4 : Nat) : Int) = 4 from rfl] at g4
  rw [show ((1 : Nat) : Int) = 1 from rfl] at g1
  rw [g1, g2, g3, g4, g5]
  rfl
theorem pdata_back (a b : Bool) (c d e f : Int) (hc : U64 c) (hd : U64 d) (he : U32 e) (hf : U64 f) : pdata 3 (dataB a b c d e f) = (true, a, b, c, d, e, f) := by
  unfold pdata
  rw [if_pos rfl, data_go a b c d e f hc hd he hf]
  dsimp only
  have h1 := dbit_in a b
  rw [u32_id he.1 he.2]
  cases a <;> cases b <;> rfl
theorem word_go (a b c : Int) (d : Bool) (e : Int) (ha : U32 a) (hb : U8 b) (hc : U8 c) (he : U64 e) : go (wordB a b c d e) [4, 1, 1, 1, 8] = some ([a, b, c, bit d, e], []) := by
  have hw : wordB a b c d e = be 4 a ++ (be 1 b ++ (be 1 c ++ (be 1 (bit d) ++ be 8 e))) := by
    unfold wordB; rw [be1 hb, be1 hc, be1 (bit_in d)]; simp
  rw [hw]
  have g1 := go_be 4 a (be 1 b ++ (be 1 c ++ (be 1 (bit d) ++ be 8 e))) [1, 1, 1, 8] (by omega) (by rw [p4]; exact ha)
  have g2 := go_be 1 b (be 1 c ++ (be 1 (bit d) ++ be 8 e)) [1, 1, 8] (by omega) (by rw [p1]; exact hb)
  have g3 := go_be 1 c (be 1 (bit d) ++ be 8 e) [1, 8] (by omega) (by rw [p1]; exact hc)
  have g4 := go_be 1 (bit d) (be 8 e) [8] (by omega) (by rw [p1]; exact bit_in d)
  have g5 := go_be 8 e [] [] (by omega) (by rw [p8]; exact he)
  rw [List.append_nil] at g5
  have c1 : ((1 : Nat) : Int) = 1 := rfl
  have c8 : ((8 : Nat) : Int) = 8 := rfl
  have c4 : ((4 : Nat) : Int) = 4 := rfl
  rw [c4] at g1; rw [c1] at g2 g3 g4; rw [c8] at g5
  rw [g1, g2, g3, g4, g5]
  rfl
theorem pword_back (k a b c : Int) (d : Bool) (e : Int) (hk : 4 ≤ k ∧ k ≤ 7) (ha : U32 a) (hb : U8 b) (hc : U8 c) (he : U64 e) : pword k (wordB a b c d e) = (true, k, a, b, c, d, e) := by
  unfold pword
  rw [if_pos hk, word_go a b c d e ha hb hc he]
  dsimp only
  rw [u32_id ha.1 ha.2, u8_id hb.1 hb.2, u8_id hc.1 hc.2]
  cases d <;> rfl
theorem nx {i : Nat} (h : i < 140737488355328) : IntKind.wrap .i64 ((i : Int) + 1) = ((i + 1 : Nat) : Int) := by rw [i64_id] <;> omega
abbrev U16 (x : Int) : Prop := 0 ≤ x ∧ x < 65536
theorem f2 (v : Int) : fieldB (2, v) = be 2 v := rfl

/-- May these options be, behind so many bytes? -/
def okO : Int → List O → Bool
  | _, [] => true
  | n, o :: l => (decide (o.1 ≠ 0) && decide (o.2.length ≤ 255) && decide (n + (2 + (o.2.length : Int)) ≤ 200)) && okO (n + (2 + (o.2.length : Int))) l
def optsB : List O → List Int
  | [] => []
  | o :: l => [o.1, (o.2.length : Int)] ++ o.2 ++ optsB l
theorem okO_cons {n : Int} {o : O} {l : List O} : okO n (o :: l) = true ↔ (o.1 ≠ 0 ∧ o.2.length ≤ 255 ∧ n + (2 + (o.2.length : Int)) ≤ 200) ∧ okO (n + (2 + (o.2.length : Int))) l = true := by
  rw [okO]; simp only [Bool.and_eq_true, decide_eq_true_eq, and_assoc]
theorem okO_len : ∀ (l : List O) (n : Int), n ≤ 200 → okO n l = true → n + ((optsB l).length : Int) ≤ 200
  | [], n, h, _ => by simp [optsB]; exact h
  | o :: l, n, h, hk => by
    rw [okO_cons] at hk
    have := okO_len l _ hk.1.2.2 hk.2
    simp only [optsB, List.length_append, List.length_cons, List.length_nil]
    omega
/-- Why a segment may not be; 0: it may. -/
def rightOf (s4 : Int) (l : List O) (d : List Int) : Int := if s4 > 7 then 70 else if okO 0 l = true then (if (d.length : Int) > 1024 then 72 else 0) else 71

def hdB (s0 s1 s2 s3 s4 : Int) : List Int := be 2 s0 ++ (be 2 s1 ++ (be 4 s2 ++ (be 4 s3 ++ be 1 s4)))
theorem hdB_len (s0 s1 s2 s3 s4 : Int) : (hdB s0 s1 s2 s3 s4).length = 13 := by unfold hdB; simp [be_len]
def encOf (s0 s1 s2 s3 s4 : Int) (l : List O) (d : List Int) : List Int := hdB s0 s1 s2 s3 s4 ++ (be 1 ((optsB l).length : Int) ++ (optsB l ++ d))
theorem right_zero {s4 : Int} {l : List O} {d : List Int} (h : rightOf s4 l d = 0) : s4 ≤ 7 ∧ okO 0 l = true ∧ d.length ≤ 1024 := by
  unfold rightOf at h
  split at h
  · omega
  · split at h
    · split at h
      · omega
      · exact ⟨by omega, by assumption, by omega⟩
    · omega
def optsP : Nat → List Int → Option (List O)
  | _, [] => some []
  | 0, _ => none
  | _ + 1, [_] => none
  | f + 1, k :: c :: r => if k = 0 then none else if c > (r.length : Int) then none else (optsP f (r.drop c.toNat)).map fun l => (k, r.take c.toNat) :: l
theorem optsLoop : ∀ (f : Nat) (b : List Int) (out : List O), Bytes b → b.length ≤ f → out.length + f ≤ 4000 → Ev (fun n => f134_seg_options_L2 n b out) (fun r => r = match optsP f b with | none => .inl ([], false) | some l => .inr (out ++ l))
  | f, [], out, hb, hf, ho => by
    apply Ev.succ
    simp only [f134_seg_options_L2]
    have : optsP f [] = some [] := by cases f <;> rfl
    rw [this]
    exact Ev.neg (by simp) (Ev.some (by simp))
  | 0, _ :: _, out, hb, hf, ho => by simp at hf
  | f + 1, [x], out, hb, hf, ho => by
    apply Ev.succ
    simp only [f134_seg_options_L2]
    exact Ev.pos (by simp) (Ev.pos (by simp) (Ev.some rfl))
  | f + 1, k :: c :: r, out, hb, hf, ho => by
    apply Ev.succ
    simp only [f134_seg_options_L2]
    have hk := hb.head
    have hc := hb.tail.head
    have hr := hb.tail.tail
    have x0 : (k :: c :: r).getD 0 0 = k := rfl
    have x1 : (k :: c :: r).getD 1 0 = c := rfl
    have hl : (k :: c :: r).length = r.length + 2 := rfl
    simp only [List.length_cons] at hf
    have e1 : IntKind.wrap .i64 c = c := i64_id (by omega) (by omega)
    have e2 : IntKind.wrap .i64 ((((k :: c :: r).length : Nat) : Int) - 2) = (r.length : Int) := by rw [hl, i64_id] <;> omega
    have e3 : IntKind.wrap .i64 (2 + c) = 2 + c := i64_id (by omega) (by omega)
    rw [x0, x1, e1, e2, e3, optsP]
    have et : (2 + c).toNat = c.toNat + 2 := by omega
    rw [et, List.take_length]
    have e4 : ((k :: c :: r).take (c.toNat + 2)).drop 2 = r.take c.toNat := rfl
    have e5 : (k :: c :: r).drop (c.toNat + 2) = r.drop c.toNat := rfl
    rw [e4, e5]
    refine Ev.pos (by simp; omega) (Ev.neg (by simp; omega) (Ev.guard (by rw [hl]; omega) (Ev.ite (fun a => Ev.some ?_) fun a => Ev.guard (by rw [hl]; omega) (Ev.ite (fun a2 => Ev.some ?_) fun a2 => ?_))))
    · rw [beq_iff_eq] at a; rw [if_pos a]
    · rw [beq_iff_eq] at a; rw [decide_eq_true_eq] at a2; rw [if_neg a, if_pos a2]
    · rw [beq_iff_eq] at a; rw [decide_eq_true_eq] at a2
      rw [if_neg a, if_neg a2]
      refine Ev.guard (by rw [hl]; omega) (Ev.guard (by rw [hl]; omega) (Ev.guard ?_ (Ev.guard ?_ (Ev.guard ?_ (Ev.guard ?_ ?_)))))
      · simp [cutOk]; omega
      · simp only [List.length_take, maxLen]; omega
      · simp only [List.length_cons, List.length_nil, maxLen]; omega
      · simp [cutOk]; omega
      · refine (optsLoop f (r.drop c.toNat) (out ++ [(k, r.take c.toNat)]) (hr.drop _) (by simp only [List.length_drop]; omega) (by simp only [List.length_append, List.length_cons, List.length_nil]; omega)).mono ?_
        rintro _ rfl
        cases optsP f (r.drop c.toNat) with
        | none => rfl
        | some l => simp
theorem opts_is (f : Nat) (b : List Int) (hb : Bytes b) (hf : b.length ≤ f) (h4 : f ≤ 4000) : Ev (fun n => f134_seg_options n b) (fun r => r = match optsP f b with | none => ([], false) | some l => (l, true)) := by
  unfold f134_seg_options
  refine Ev.bind (optsLoop f b [] hb hf (by simp; omega)) ?_
  rintro _ rfl
  cases optsP f b with
  | none => exact Ev.some rfl
  | some l => exact Ev.some rfl
theorem optsP_optsB : ∀ (l : List O) (f : Nat) (n : Int), okO n l = true → (optsB l).length ≤ f → optsP f (optsB l) = some l
  | [], f, n, h, hf => by cases f <;> rfl
  | o :: l, f, n, h, hf => by
    rw [okO_cons] at h
    simp only [optsB, List.length_append, List.length_cons, List.length_nil] at hf
    obtain ⟨f, rfl⟩ : ∃ g, f = g + 1 := ⟨f - 1, by omega⟩
    have e : optsB (o :: l) = o.1 :: (o.2.length : Int) :: (o.2 ++ optsB l) := by simp [optsB]
    rw [e, optsP, if_neg h.1.1, if_neg (by simp; omega), Int.toNat_natCast, List.drop_left, List.take_left, optsP_optsB l f _ h.2 (by omega)]
    rfl
theorem optsB_optsP : ∀ (f : Nat) (r : List Int) (l : List O) (n : Int), Bytes r → optsP f r = some l → n + (r.length : Int) ≤ 200 → optsB l = r ∧ okO n l = true ∧ l.length ≤ r.length ∧ ∀ o ∈ l, o.2.length ≤ r.length
  | f, [], l, n, hb, h, hn => by
    have : optsP f [] = some [] := by cases f <;> rfl
    rw [this] at h
    injection h with h; subst h
    exact ⟨rfl, rfl, Nat.le_refl _, fun o ho => by cases ho⟩
  | 0, _ :: _, l, n, hb, h, hn => by simp [optsP] at h
  | f + 1, [x], l, n, hb, h, hn => by simp [optsP] at h
  | f + 1, k :: c :: r, l, n, hb, h, hn => by
    rw [optsP] at h
    split at h
    · cases h
    rename_i hk
    split at h
    · cases h
    rename_i hc2
    obtain ⟨l', h1, h2⟩ := Option.map_eq_some_iff.1 h
    subst h2
    have hc := hb.tail.head
    simp only [List.length_cons] at hn
    have hl : (r.take c.toNat).length = c.toNat := by rw [List.length_take]; omega
    obtain ⟨i1, i2, i3, i4⟩ := optsB_optsP f (r.drop c.toNat) l' (n + (2 + (c.toNat : Int))) (hb.tail.tail.drop _) h1 (by simp only [List.length_drop]; omega)
    refine ⟨?_, ?_, ?_, ?_⟩
    · simp only [optsB, hl, i1]
      rw [show (c.toNat : Int) = c by omega]
      simp
    · rw [okO_cons]
      dsimp only
      rw [hl]
      exact ⟨⟨hk, by omega, by omega⟩, i2⟩
    · simp only [List.length_cons, List.length_drop] at i3 ⊢; omega
    · intro o ho
      simp only [List.length_drop] at i4
      rcases List.mem_cons.1 ho with rfl | h5
      · simp only [hl, List.length_cons]; omega
      · have := i4 o h5; simp only [List.length_cons]; omega

abbrev Seg8 := Int × Int × Int × Int × Int × Int × List O × List Int
def er (e : Int) : Seg8 := (e, 0, 0, 0, 0, 0, [], [])
def parseOf (b : List Int) : Seg8 := match go b [2, 2, 4, 4, 1, 1] with
  | some ([x0, x1, x2, x3, x4, x5], rest) => if x4 > 7 then er 70 else if x5 > 200 then er 71 else if x5 > (rest.length : Int) then er 71 else
      match optsP 4000 (rest.take x5.toNat) with
      | none => er 71
      | some l => if (rest.length : Int) - x5 > 1024 then er 72 else (0, x0, x1, x2, x3, x4, l, rest.drop x5.toNat)
  | _ => er 70
theorem q2 : (256 : Int) ^ 2 = 65536 := by decide
theorem go6 {b : List Int} (hb : Bytes b) : go b [2, 2, 4, 4, 1, 1] = none ∨ ∃ x0 x1 x2 x3 x4 x5 rest, go b [2, 2, 4, 4, 1, 1] = some ([x0, x1, x2, x3, x4, x5], rest) ∧ U16 x0 ∧ U16 x1 ∧ U32 x2 ∧ U32 x3 ∧ U8 x4 ∧ U8 x5 ∧ Bytes rest ∧ rest.length + 14 = b.length ∧ b = hdB x0 x1 x2 x3 x4 ++ (be 1 x5 ++ rest) ∧ rest = b.drop 14 ∧ x4 = b.getD 12 0 ∧ x5 = b.getD 13 0 := by
  cases hg : go b [2, 2, 4, 4, 1, 1] with
  | none => exact .inl rfl
  | some p =>
    obtain ⟨v, rest⟩ := p
    have hlen := (go_len _ _ _ hg).2
    match v, hlen with
    | [x0, x1, x2, x3, x4, x5], _ =>
      refine .inr ⟨x0, x1, x2, x3, x4, x5, rest, rfl, ?_⟩
      obtain ⟨_, _, l1, v1, g1⟩ := go_cons hg
      obtain ⟨_, _, l2, v2, g2⟩ := go_cons g1
      obtain ⟨_, _, l3, v3, g3⟩ := go_cons g2
      obtain ⟨_, _, l4, v4, g4⟩ := go_cons g3
      obtain ⟨_, _, l5, v5, g5⟩ := go_cons g4
      obtain ⟨_, _, l6, v6, g6⟩ := go_cons g5
      clear hg g1 g2 g3 g4 g5
      simp only [go, Option.some.injEq, Prod.mk.injEq, true_and] at g6
      have t2 : Int.toNat 2 = 2 := rfl
      have t4 : Int.toNat 4 = 4 := rfl
      have t1 : Int.toNat 1 = 1 := rfl
      simp only [t1, t2, t4, List.drop_drop] at v1 v2 v3 v4 v5 v6 g6 l1 l2 l3 l4 l5 l6
      simp only [List.length_drop] at l2 l3 l4 l5 l6
      have n1 := num_take hb (s := 2) (by omega) (by omega)
      have n2 := num_take (hb.drop 2) (s := 2) (by omega) (by simp; omega)
      have n3 := num_take (hb.drop 4) (s := 4) (by omega) (by simp; omega)
      have n4 := num_take (hb.drop 8) (s := 4) (by omega) (by simp; omega)
      have n5 := num_take (hb.drop 12) (s := 1) (by omega) (by simp; omega)
      have n6 := num_take (hb.drop 13) (s := 1) (by omega) (by simp; omega)
      rw [q2] at n1 n2; rw [p4] at n3 n4; rw [p1] at n5 n6
      have c1 := be_take hb (s := 2) (by omega) (by omega)
      have c2 := be_take (hb.drop 2) (s := 2) (by omega) (by simp; omega)
      have c3 := be_take (hb.drop 4) (s := 4) (by omega) (by simp; omega)
      have c4 := be_take (hb.drop 8) (s := 4) (by omega) (by simp; omega)
      have c5 := be_take (hb.drop 12) (s := 1) (by omega) (by simp; omega)
      have c6 := be_take (hb.drop 13) (s := 1) (by omega) (by simp; omega)
      have one : ∀ i, i < b.length → num ((b.drop i).take 1) = b.getD i 0 := by
        intro i hi
        rw [drop_cons hi 0]
        have := hb.get i
        show st 0 (b.getD i 0) = b.getD i 0
        unfold st; omega
      have o1 := one 12 (by omega)
      have o2 := one 13 (by omega)
      rw [← v1] at n1 c1; rw [← v2] at n2 c2; rw [← v3] at n3 c3; rw [← v4] at n4 c4; rw [← v5] at n5 c5 o1; rw [← v6] at n6 c6 o2
      refine ⟨n1, n2, n3, n4, n5, n6, by rw [← g6]; exact hb.drop _, by rw [← g6]; simp; omega, ?_, g6.symm, o1, o2⟩
      unfold hdB
      rw [c1, c2, c3, c4, c5, c6, ← g6]
      have d : ∀ i k, (b.drop i).take k ++ b.drop (i + k) = b.drop i := by
        intro i k
        have := List.take_append_drop k (b.drop i)
        rwa [List.drop_drop] at this
      simp only [List.append_assoc]
      rw [d 13 1, d 12 1, d 8 4, d 4 4, d 2 2, List.take_append_drop]
theorem parse_is (b : List Int) (hb : Bytes b) (hl : b.length ≤ 4000) : Ev (fun n => f123_seg_Parse n b) (fun r => r = parseOf b) := by
  unfold f123_seg_Parse parseOf
  refine Ev.bind (get_is b [2, 2, 4, 4, 1, 1] (by omega) hb (by simp)) ?_
  rintro _ rfl
  rcases go6 hb with g | ⟨x0, x1, x2, x3, x4, x5, rest, g, a0, a1, a2, a3, a4, a5, hr, hrl, _⟩
  · rw [g]
    exact Ev.pos rfl (Ev.some rfl)
  rw [g]
  unfold ans
  dsimp only
  have y0 : ([x0, x1, x2, x3, x4, x5] : List Int).getD 0 0 = x0 := rfl
  have y1 : ([x0, x1, x2, x3, x4, x5] : List Int).getD 1 0 = x1 := rfl
  have y2 : ([x0, x1, x2, x3, x4, x5] : List Int).getD 2 0 = x2 := rfl
  have y3 : ([x0, x1, x2, x3, x4, x5] : List Int).getD 3 0 = x3 := rfl
  have y4 : ([x0, x1, x2, x3, x4, x5] : List Int).getD 4 0 = x4 := rfl
  have y5 : ([x0, x1, x2, x3, x4, x5] : List Int).getD 5 0 = x5 := rfl
  rw [y0, y1, y2, y3, y4, y5, i64_id (e := x5) (by omega) (by omega), i64_id (e := (rest.length : Int) - x5) (by omega) (by omega), u16_id a0.1 a0.2, u16_id a1.1 a1.2, u32_id a2.1 a2.2, u32_id a3.1 a3.2, u8_id a4.1 a4.2, List.take_length]
  refine Ev.neg (by simp) (Ev.guard ⟨by decide, by simp⟩ (Ev.ite (fun c => Ev.some ?_) fun c => Ev.guard ⟨by decide, by simp⟩ (Ev.guard ⟨by decide, by simp⟩ (Ev.guard ⟨by decide, by simp⟩ (Ev.guard ⟨by decide, by simp⟩ (Ev.guard ⟨by decide, by simp⟩ (Ev.guard ⟨by decide, by simp⟩ (Ev.ite (fun c2 => Ev.some ?_) fun c2 => Ev.ite (fun c3 => Ev.some ?_) fun c3 => Ev.guard ?_ ?_))))))))
  · rw [decide_eq_true_eq] at c; rw [if_pos c]; rfl
  · rw [decide_eq_true_eq] at c c2; rw [if_neg c, if_pos c2]; rfl
  · rw [decide_eq_true_eq] at c c2 c3; rw [if_neg c, if_neg c2, if_pos c3]; rfl
  · rw [decide_eq_true_eq] at c2 c3; simp [cutOk]; omega
  rw [decide_eq_true_eq] at c c2 c3
  rw [if_neg c, if_neg c2, if_neg c3]
  refine Ev.bind (opts_is 4000 (rest.take x5.toNat) (hr.take _) (by simp only [List.length_take]; omega) (by omega)) ?_
  rintro _ rfl
  cases optsP 4000 (rest.take x5.toNat) with
  | none => exact Ev.pos rfl (Ev.some rfl)
  | some l =>
    dsimp only
    refine Ev.neg (by simp) (Ev.ite (fun d => Ev.some ?_) fun d => Ev.guard ?_ (Ev.guard ?_ (Ev.some ?_)))
    · rw [decide_eq_true_eq] at d; rw [if_pos d]; rfl
    · simp [cutOk]; omega
    · simp only [List.length_drop, maxLen]; omega
    · rw [decide_eq_true_eq] at d; rw [if_neg d]
theorem parse_enc {s0 s1 s2 s3 s4 : Int} {l : List O} {d : List Int} (h0 : U16 s0) (h1 : U16 s1) (h2 : U32 s2) (h3 : U32 s3) (h4 : U8 s4) (h : rightOf s4 l d = 0) : parseOf (encOf s0 s1 s2 s3 s4 l d) = (0, s0, s1, s2, s3, s4, l, d) := by
  obtain ⟨r1, r2, r3⟩ := right_zero h
  have hlen := okO_len l 0 (by omega) r2
  have hu : U8 ((optsB l).length : Int) := by constructor <;> omega
  have g1 := go_be 2 s0 (be 2 s1 ++ (be 4 s2 ++ (be 4 s3 ++ (be 1 s4 ++ (be 1 ((optsB l).length : Int) ++ (optsB l ++ d)))))) [2, 4, 4, 1, 1] (by omega) (by rw [q2]; exact h0)
  have g2 := go_be 2 s1 (be 4 s2 ++ (be 4 s3 ++ (be 1 s4 ++ (be 1 ((optsB l).length : Int) ++ (optsB l ++ d))))) [4, 4, 1, 1] (by omega) (by rw [q2]; exact h1)
  have g3 := go_be 4 s2 (be 4 s3 ++ (be 1 s4 ++ (be 1 ((optsB l).length : Int) ++ (optsB l ++ d)))) [4, 1, 1] (by omega) (by rw [p4]; exact h2)
  have g4 := go_be 4 s3 (be 1 s4 ++ (be 1 ((optsB l).length : Int) ++ (optsB l ++ d))) [1, 1] (by omega) (by rw [p4]; exact h3)
  have g5 := go_be 1 s4 (be 1 ((optsB l).length : Int) ++ (optsB l ++ d)) [1] (by omega) (by rw [p1]; exact h4)
  have g6 := go_be 1 ((optsB l).length : Int) (optsB l ++ d) [] (by omega) (by rw [p1]; exact hu)
  rw [show ((2 : Nat) : Int) = 2 from rfl] at g1 g2
  rw [show ((4 : Nat) : Int) = 4 from rfl] at g3 g4
  rw [show ((1 : Nat) : Int) = 1 from rfl] at g5 g6
  have hg : go (encOf s0 s1 s2 s3 s4 l d) [2, 2, 4, 4, 1, 1] = some ([s0, s1, s2, s3, s4, ((optsB l).length : Int)], optsB l ++ d) := by
    unfold encOf hdB
    simp only [List.append_assoc]
    rw [g1, g2, g3, g4, g5, g6]
    rfl
  unfold parseOf
  rw [hg]
  dsimp only
  rw [if_neg (by omega), if_neg (by omega), if_neg (by simp; omega), Int.toNat_natCast, List.take_left, List.drop_left, optsP_optsB l 4000 0 r2 (by omega)]
  dsimp only
  rw [if_neg (by simp only [List.length_append]; omega)]
theorem enc_parse {b : List Int} (hb : Bytes b) {s0 s1 s2 s3 s4 : Int} {l : List O} {d : List Int} (h : parseOf b = (0, s0, s1, s2, s3, s4, l, d)) :
    U16 s0 ∧ U16 s1 ∧ U32 s2 ∧ U32 s3 ∧ U8 s4 ∧ rightOf s4 l d = 0 ∧ encOf s0 s1 s2 s3 s4 l d = b ∧ l.length ≤ 1000 ∧ ∀ o ∈ l, o.2.length ≤ 100000 := by
  unfold parseOf at h
  rcases go6 hb with g | ⟨x0, x1, x2, x3, x4, x5, rest, g, a0, a1, a2, a3, a4, a5, hr, hrl, hbb, _⟩
  · rw [g] at h; dsimp only [er] at h; injection h with h1 h2; omega
  rw [g] at h
  dsimp only at h
  split at h
  · dsimp only [er] at h; injection h with h1 h2; omega
  rename_i c
  split at h
  · dsimp only [er] at h; injection h with h1 h2; omega
  rename_i c2
  split at h
  · dsimp only [er] at h; injection h with h1 h2; omega
  rename_i c3
  split at h
  · dsimp only [er] at h; injection h with h1 h2; omega
  rename_i l' ho
  split at h
  · dsimp only [er] at h; injection h with h1 h2; omega
  rename_i c4
  simp only [Prod.mk.injEq, true_and] at h
  obtain ⟨rfl, rfl, rfl, rfl, rfl, rfl, rfl⟩ := h
  have htl : (rest.take x5.toNat).length = x5.toNat := by rw [List.length_take]; omega
  obtain ⟨i1, i2, i3, i4⟩ := optsB_optsP 4000 (rest.take x5.toNat) l' 0 (hr.take _) ho (by rw [htl]; omega)
  have hdl : (rest.drop x5.toNat).length = rest.length - x5.toNat := by simp
  refine ⟨a0, a1, a2, a3, a4, ?_, ?_, by omega, fun o h5 => by have := i4 o h5; omega⟩
  · unfold rightOf
    rw [if_neg c, if_pos i2, if_neg (by omega)]
  · unfold encOf
    rw [i1, htl, show ((x5.toNat : Nat) : Int) = x5 by omega, List.take_append_drop]
    exact hbb.symm
theorem parse_err (b : List Int) : (parseOf b).1 = 0 ∨ parseOf b = er (parseOf b).1 := by
  unfold parseOf
  split
  · split
    · exact .inr rfl
    · split
      · exact .inr rfl
      · split
        · exact .inr rfl
        · split
          · exact .inr rfl
          · split
            · exact .inr rfl
            · exact .inl rfl
  · exact .inr rfl
theorem optsB_bytes : ∀ (l : List O), (∀ o ∈ l, U8 o.1 ∧ Bytes o.2 ∧ o.2.length ≤ 255) → Bytes (optsB l)
  | [], _ => Bytes.nil
  | o :: l, h => by
    obtain ⟨h1, h2, h3⟩ := h o (by simp)
    unfold optsB
    exact ((Bytes.cons h1 (Bytes.cons (by constructor <;> omega) Bytes.nil)).append h2).append (optsB_bytes l (fun x hx => h x (by simp [hx])))
theorem okO_mem : ∀ (l : List O) (n : Int), okO n l = true → ∀ o ∈ l, o.2.length ≤ 255
  | [], _, _, _, h => by cases h
  | o :: l, n, h, x, hx => by
    rw [okO_cons] at h
    rcases List.mem_cons.1 hx with rfl | h2
    · exact h.1.2.1
    · exact okO_mem l _ h.2 x h2

theorem go_prefix : ∀ (l1 l2 b v rest : List Int), go b (l1 ++ l2) = some (v, rest) → ∃ r, go b l1 = some (v.take l1.length, r)
  | [], l2, b, v, rest, h => ⟨b, rfl⟩
  | x :: l1, l2, b, v, rest, h => by
    rw [List.cons_append] at h
    simp only [go] at h ⊢
    split at h
    · rename_i hc
      rw [if_pos hc]
      obtain ⟨p, h1, h2⟩ := Option.map_eq_some_iff.1 h
      obtain ⟨p1, p2⟩ := p
      simp only [Prod.mk.injEq] at h2
      obtain ⟨rfl, rfl⟩ := h2
      obtain ⟨r, h3⟩ := go_prefix l1 l2 _ p1 p2 h1
      exact ⟨r, by rw [h3]; rfl⟩
    · cases h
theorem go6_some {b : List Int} (h : 14 ≤ b.length) : ∃ p, go b [2, 2, 4, 4, 1, 1] = some p := by
  have t2 : Int.toNat 2 = 2 := rfl
  have t4 : Int.toNat 4 = 4 := rfl
  have t1 : Int.toNat 1 = 1 := rfl
  simp only [go]
  rw [if_pos ⟨by decide, by decide, by omega⟩, if_pos ⟨by decide, by decide, by simp only [List.length_drop, t2]; omega⟩, if_pos ⟨by decide, by decide, by simp only [List.length_drop, t2]; omega⟩,
    if_pos ⟨by decide, by decide, by simp only [List.length_drop, t2, t4]; omega⟩, if_pos ⟨by decide, by decide, by simp only [List.length_drop, t2, t4]; omega⟩, if_pos ⟨by decide, by decide, by simp only [List.length_drop, t2, t4, t1]; omega⟩]
  exact ⟨_, rfl⟩

def Rg (b : List Int) (e a : Nat) : List Int := (b.drop a).take (e - a)
theorem Rg_len {b : List Int} {e a : Nat} (he : e ≤ b.length) : (Rg b e a).length = e - a := by unfold Rg; simp; omega
theorem Rg_cons {b : List Int} {e a : Nat} (he : e ≤ b.length) (h : a < e) : Rg b e a = b.getD a 0 :: Rg b e (a + 1) := by
  unfold Rg
  rw [drop_cons (show a < b.length by omega) 0, show e - a = (e - (a + 1)) + 1 by omega, List.take_succ_cons]
theorem Rg_nil {b : List Int} {e : Nat} : Rg b e e = [] := by unfold Rg; simp
theorem Rg_take {b : List Int} {e a c : Nat} (h : a + c ≤ e) : (Rg b e a).take c = (b.take (a + c)).drop a := by
  unfold Rg
  rw [List.take_take, List.drop_take]
  congr 1
  omega
theorem Rg_drop {b : List Int} {e a c : Nat} : (Rg b e a).drop c = Rg b e (a + c) := by
  unfold Rg
  rw [List.drop_take, List.drop_drop]
  congr 1
  omega

theorem refLoop (b : List Int) (hb : Bytes b) (hl : b.length ≤ 3000) (e : Nat) (he : e ≤ b.length) (h14 : 14 ≤ e) (t0 t1 t2 t3 t4 s0 s1 s2 s3 s4 : Int) (f : Nat) : ∀ (a : Nat) (l : List O), a ≤ e → e - a ≤ f → l.length ≤ a →
    Ev (fun n => f122_broughamref07_Parse_L9 n b ((e : Int) - 14) (a : Int) t0 t1 t2 t3 t4 s0 s1 s2 s3 s4 l) (fun r => r = match optsP f (Rg b e a) with | none => .inl (er 71) | some m => .inr (b, (e : Int), t0, t1, t2, t3, t4, s0, s1, s2, s3, s4, l ++ m)) := by
  have e0 : IntKind.wrap .i64 (14 + ((e : Int) - 14)) = (e : Int) := by rw [i64_id] <;> omega
  induction f with
  | zero =>
    intro a l ha hf hll
    obtain rfl : a = e := by omega
    apply Ev.succ
    simp only [f122_broughamref07_Parse_L9]
    rw [e0, Rg_nil, show optsP 0 [] = some [] from rfl]
    exact Ev.neg (by simp) (Ev.some (by simp))
  | succ f ih =>
    intro a l ha hf hll
    apply Ev.succ
    simp only [f122_broughamref07_Parse_L9]
    rw [e0]
    by_cases hae : a = e
    · subst hae
      rw [Rg_nil, show optsP (f + 1) [] = some [] from rfl]
      exact Ev.neg (by simp) (Ev.some (by simp))
    have w1 : IntKind.wrap .i64 ((a : Int) + 1) = ((a + 1 : Nat) : Int) := nx (by omega)
    have w2 : IntKind.wrap .i64 ((a : Int) + 2) = ((a + 2 : Nat) : Int) := by rw [i64_id] <;> omega
    rw [w1, w2, Int.toNat_natCast, Int.toNat_natCast, Int.toNat_natCast]
    have hk := hb.get a
    have hc := hb.get (a + 1)
    refine Ev.pos (by simp; omega) (Ev.ite (fun c1 => Ev.some ?_) fun c1 => ?_)
    · rw [decide_eq_true_eq] at c1
      obtain rfl : e = a + 1 := by omega
      rw [Rg_cons he (by omega), Rg_nil]; rfl
    rw [decide_eq_true_eq] at c1
    rw [Rg_cons he (by omega), Rg_cons he (by omega), optsP, Rg_len he]
    generalize hkk : b.getD a 0 = k at hk
    generalize hcc : b.getD (a + 1) 0 = c at hc
    rw [i64_id (e := c) (by omega) (by omega)]
    obtain ⟨c, rfl⟩ : ∃ j : Nat, c = (j : Int) := ⟨c.toNat, by omega⟩
    have w3 : IntKind.wrap .i64 (((a + 2 : Nat) : Int) + (c : Int)) = ((a + 2 + c : Nat) : Int) := by rw [i64_id] <;> omega
    have w4 : IntKind.wrap .i64 (2 + (c : Int)) = ((2 + c : Nat) : Int) := by rw [i64_id] <;> omega
    have w5 : IntKind.wrap .i64 ((a : Int) + ((2 + c : Nat) : Int)) = ((a + 2 + c : Nat) : Int) := by rw [i64_id] <;> omega
    rw [w3, w4, w5, Int.toNat_natCast]
    refine Ev.guard (by omega) (Ev.ite (fun c2 => Ev.some ?_) fun c2 => Ev.guard (by omega) (Ev.ite (fun c3 => Ev.some ?_) fun c3 => ?_))
    · rw [beq_iff_eq] at c2; rw [if_pos c2]; rfl
    · rw [beq_iff_eq] at c2; rw [decide_eq_true_eq] at c3; rw [if_neg c2, if_pos (by omega)]; rfl
    rw [beq_iff_eq] at c2; rw [decide_eq_true_eq] at c3
    rw [if_neg c2, if_neg (by omega), Int.toNat_natCast, Rg_take (by omega), Rg_drop]
    refine Ev.guard (by omega) (Ev.guard (by omega) (Ev.guard ?_ (Ev.guard ?_ (Ev.guard ?_ ?_))))
    · simp [cutOk]; omega
    · simp only [List.length_drop, List.length_take, List.length_nil, maxLen]; omega
    · simp only [List.length_cons, List.length_nil, maxLen]; omega
    · rw [List.nil_append]
      refine (ih (a + 2 + c) (l ++ [(k, (b.take (a + 2 + c)).drop (a + 2))]) (by omega) (by omega) (by simp only [List.length_append, List.length_cons, List.length_nil]; omega)).mono ?_
      rintro _ rfl
      rw [show a + 1 + 1 + c = a + 2 + c by omega]
      cases optsP f (Rg b e (a + 2 + c)) with
      | none => rfl
      | some m => simp
theorem refParse_is (b : List Int) (hb : Bytes b) (hl : b.length ≤ 3000) : Ev (fun n => f122_broughamref07_Parse n b) (fun r => r = parseOf b) := by
  unfold f122_broughamref07_Parse
  refine Ev.ite (fun c => Ev.some ?_) fun c => ?_
  · rw [decide_eq_true_eq] at c
    unfold parseOf
    rcases go6 hb with g | ⟨x0, x1, x2, x3, x4, x5, rest, g, _, _, _, _, _, _, _, hrl, _⟩
    · rw [g]; rfl
    · omega
  rw [decide_eq_true_eq] at c
  obtain ⟨p, hp⟩ := go6_some (b := b) (by omega)
  rcases go6 hb with g | ⟨x0, x1, x2, x3, x4, x5, rest, g, a0, a1, a2, a3, a4, a5, hr, hrl, hbb, hrest, hx4, hx5⟩
  · rw [g] at hp; cases hp
  unfold parseOf
  rw [g]
  dsimp only
  rw [← hx4, ← hx5, i64_id (e := x5) (by omega) (by omega), i64_id (e := ((b.length : Nat) : Int) - 14) (by omega) (by omega)]
  refine Ev.guard (by omega) (Ev.ite (fun c1 => Ev.some ?_) fun c1 => Ev.guard (by omega) (Ev.ite (fun c2 => Ev.some ?_) fun c2 => Ev.ite (fun c3 => Ev.some ?_) fun c3 => ?_))
  · rw [decide_eq_true_eq] at c1; rw [if_pos c1]; rfl
  · rw [decide_eq_true_eq] at c1 c2; rw [if_neg c1, if_pos c2]; rfl
  · rw [decide_eq_true_eq] at c1 c2 c3; rw [if_neg c1, if_neg c2, if_pos (by omega)]; rfl
  rw [decide_eq_true_eq] at c1 c2 c3
  rw [if_neg c1, if_neg c2, if_neg (by omega)]
  obtain ⟨r4, g4⟩ := go_prefix [2, 2, 4, 4] [1, 1] b _ _ g
  refine Ev.bind (all_is b [2, 2, 4, 4] (by omega) hb (by simp)) ?_
  rw [g4]
  rintro _ rfl
  have y0 : (ans (some (([x0, x1, x2, x3, x4, x5] : List Int).take ([2, 2, 4, 4] : List Int).length, r4))).1.getD 0 0 = x0 := rfl
  have y1 : (ans (some (([x0, x1, x2, x3, x4, x5] : List Int).take ([2, 2, 4, 4] : List Int).length, r4))).1.getD 1 0 = x1 := rfl
  have y2 : (ans (some (([x0, x1, x2, x3, x4, x5] : List Int).take ([2, 2, 4, 4] : List Int).length, r4))).1.getD 2 0 = x2 := rfl
  have y3 : (ans (some (([x0, x1, x2, x3, x4, x5] : List Int).take ([2, 2, 4, 4] : List Int).length, r4))).1.getD 3 0 = x3 := rfl
  rw [y0, y1, y2, y3, u16_id a0.1 a0.2, u16_id a1.1 a1.2, u32_id a2.1 a2.2, u32_id a3.1 a3.2]
  refine Ev.guard ⟨by decide, by simp [ans]⟩ (Ev.guard ⟨by decide, by simp [ans]⟩ (Ev.guard ⟨by decide, by simp [ans]⟩ (Ev.guard ⟨by decide, by simp [ans]⟩ (Ev.guard (by omega) ?_))))
  obtain ⟨m, rfl⟩ : ∃ j : Nat, x5 = (j : Int) := ⟨x5.toNat, by omega⟩
  have hloop := refLoop b hb hl (14 + m) (by omega) (by omega) 0 0 0 0 0 x0 x1 x2 x3 x4 4000 14 [] (by omega) (by omega) (by simp)
  rw [show (((14 + m : Nat) : Int) - 14) = (m : Int) by omega] at hloop
  have hrg : Rg b (14 + m) 14 = rest.take (m : Int).toNat := by
    unfold Rg; rw [hrest, Int.toNat_natCast, show 14 + m - 14 = m by omega]
  rw [hrg] at hloop
  refine Ev.bind hloop ?_
  rintro _ rfl
  cases optsP 4000 (rest.take (m : Int).toNat) with
  | none => exact Ev.some rfl
  | some l =>
    dsimp only
    rw [i64_id (e := ((b.length : Nat) : Int) - ((14 + m : Nat) : Int)) (by omega) (by omega)]
    refine Ev.ite (fun d => Ev.some ?_) fun d => Ev.guard ?_ (Ev.guard ?_ (Ev.some ?_))
    · rw [decide_eq_true_eq] at d; rw [if_pos (by omega)]; rfl
    · simp [cutOk]; omega
    · simp only [List.length_drop, List.length_take, List.length_nil, maxLen]; omega
    · rw [decide_eq_true_eq] at d; rw [if_neg (by omega)]
      rw [List.take_length, Int.toNat_natCast, Int.toNat_natCast, hrest, List.drop_drop]
      rfl
theorem parse_opts {b : List Int} (hb : Bytes b) : (parseOf b).2.2.2.2.2.2.1.length ≤ 1000 := by
  rcases parse_err b with h | h
  · obtain ⟨s0, s1, s2, s3, s4, l, d, e⟩ : ∃ s0 s1 s2 s3 s4 l d, parseOf b = (0, s0, s1, s2, s3, s4, l, d) := ⟨_, _, _, _, _, _, _, by rw [← h]⟩
    rw [e]
    exact (enc_parse hb e).2.2.2.2.2.2.2.1
  · rw [h]; simp [er]
end Go.Proofs.YtjoibacjpapncaaF26
