/- PACK: what putting fields and getting numbers leave, in plain numbers. Conditions: none. -/
import Derived.Test.YtddglebabaaghaaF08
import Derived.Test.YtddglebabaaghaaZedPb
namespace Go.Proofs.YtddglebabaaghaaF08
open Go Zed
set_option linter.unusedVariables false
set_option linter.unusedSimpArgs false

def st (x c : Int) : Int := (x * 256 + c) % 18446744073709551616
def num (l : List Int) : Int := l.foldl st 0
def go (b : List Int) : List Int → Option (List Int × List Int)
  | [] => some ([], b)
  | s :: r => if 1 ≤ s ∧ s ≤ 8 ∧ s ≤ b.length then (go (b.drop s.toNat) r).map fun p => (num (b.take s.toNat) :: p.1, p.2) else none
theorem inner (b out : List Int) (n_ : Int) (t13 : List Int) (t14 t15 : Int) (l : List Int) (hl : l.length ≤ 8) (hb : Bytes l) : ∀ (k i : Nat) (x : Int), i + k = l.length →
    Ev (fun n => f83_pack_Get_L9 n b out n_ x t13 t14 t15 l ((l.length : Nat) : Int) i) (fun r => r = (b, out, n_, (l.drop i).foldl st x, t13, t14, t15))
  | 0, i, x, h => by
    apply Ev.succ
    simp only [f83_pack_Get_L9]
    exact Ev.neg (by simp; omega) (Ev.some (by rw [List.drop_eq_nil_of_le (by omega)]; rfl))
  | k + 1, i, x, h => by
    apply Ev.succ
    simp only [f83_pack_Get_L9]
    have hi : i < l.length := by omega
    have hc := hb _ (getD_mem hi 0)
    refine Ev.pos (by simp; omega) (Ev.guard (by omega) ?_)
    rw [Int.toNat_natCast, or_u64_byte x _ hc, i64_id (show -9223372036854775808 ≤ (i : Int) + 1 by omega) (by omega), show (i : Int) + 1 = ((i + 1 : Nat) : Int) by omega]
    refine (inner b out n_ t13 t14 t15 l hl hb k (i + 1) _ (by omega)).mono ?_
    rintro _ rfl
    rw [drop_cons hi 0]; rfl

theorem refInner (b : List Int) (m : Nat) (hm : m ≤ b.length) (hm8 : m ≤ 8) (hb : Bytes b) : ∀ (k i : Nat) (x : Int), i + k = m →
    Ev (fun n => f82_broughamref02_Get_L5 n b m x i) (fun r => r = (b, (m : Int), ((b.take m).drop i).foldl st x))
  | 0, i, x, h => by
    apply Ev.succ
    simp only [f82_broughamref02_Get_L5]
    exact Ev.neg (by simp; omega) (Ev.some (by rw [List.drop_eq_nil_of_le (by simp; omega)]; rfl))
  | k + 1, i, x, h => by
    apply Ev.succ
    simp only [f82_broughamref02_Get_L5]
    have hi : i < (b.take m).length := by simp; omega
    have hc := hb _ (getD_mem (show i < b.length by omega) 0)
    have he : (b.take m).getD i 0 = b.getD i 0 := by simp only [List.getD]; rw [List.getElem?_take, if_pos (by omega)]
    refine Ev.pos (by simp; omega) (Ev.guard (by omega) ?_)
    rw [Int.toNat_natCast, w_u64, w_u64, w_u64, i64_id (show -9223372036854775808 ≤ (i : Int) + 1 by omega) (by omega), show (i : Int) + 1 = ((i + 1 : Nat) : Int) by omega]
    refine (refInner b m hm hm8 hb k (i + 1) _ (by omega)).mono ?_
    rintro _ rfl
    rw [drop_cons hi 0, List.foldl_cons, he]
    have : st x (b.getD i 0) = (x * 256 % 18446744073709551616 + b.getD i 0 % 18446744073709551616) % 18446744073709551616 := by unfold st; omega
    rw [this]

/-- What both leave. -/
def left (out : List Int) : Option (List Int × List Int) → (List Int × List Int × Bool) ⊕ (List Int × List Int)
  | none => .inl ([], [], false)
  | some p => .inr (p.2, out ++ p.1)

theorem left_map (out : List Int) (x : Int) (o : Option (List Int × List Int)) : left (out ++ [x]) o = left out (o.map fun p => (x :: p.1, p.2)) := by
  cases o <;> simp [left]

theorem gets (sizes : List Int) (hs : sizes.length ≤ 200) : ∀ (k i : Nat) (b out : List Int), i + k = sizes.length → b.length ≤ 4096 → Bytes b → out.length ≤ i →
    Ev (fun n => f83_pack_Get_L3 n b out sizes ((sizes.length : Nat) : Int) i) (fun r => r = left out (go b (sizes.drop i)))
  | 0, i, b, out, h, hbl, hb, ho => by
    apply Ev.succ
    simp only [f83_pack_Get_L3]
    exact Ev.neg (by simp; omega) (Ev.some (by rw [List.drop_eq_nil_of_le (by omega)]; simp [go, left]))
  | k + 1, i, b, out, h, hbl, hb, ho => by
    apply Ev.succ
    simp only [f83_pack_Get_L3]
    have hi : i < sizes.length := by omega
    rw [drop_cons hi 0, Int.toNat_natCast]
    generalize sizes.getD i 0 = s
    simp only [go]
    refine Ev.pos (by simp; omega) (Ev.guard (by omega) (Ev.ite (fun h1 => ?_) (fun h1 => Ev.ite (fun h2 => ?_) (fun h2 => Ev.ite (fun h3 => ?_) (fun h3 => ?_)))))
    · simp only [decide_eq_true_eq] at h1
      exact Ev.some (by rw [if_neg (by omega)]; rfl)
    · simp only [decide_eq_true_eq] at h1 h2
      exact Ev.some (by rw [if_neg (by omega)]; rfl)
    · simp only [decide_eq_true_eq] at h1 h2 h3
      exact Ev.some (by rw [if_neg (by omega)]; rfl)
    · simp only [decide_eq_true_eq] at h1 h2 h3
      have htl : (b.take s.toNat).length = s.toNat := by simp; omega
      refine Ev.guard (by simp [cutOk]; omega) (Ev.bind (inner b out s sizes _ _ (b.take s.toNat) (by omega) (hb.take _) (b.take s.toNat).length 0 0 (by omega)) ?_)
      rintro _ rfl
      dsimp only
      refine Ev.guard (by simp [maxLen]; omega) (Ev.guard (by simp [cutOk]; omega) ?_)
      rw [i64_id (show -9223372036854775808 ≤ (i : Int) + 1 by omega) (by omega), show (i : Int) + 1 = ((i + 1 : Nat) : Int) by omega, if_pos (by omega), List.take_length]
      refine (gets sizes hs k (i + 1) (b.drop s.toNat) (out ++ [num (b.take s.toNat)]) (by omega) (by simp; omega) (hb.drop _) (by simp; omega)).mono ?_
      rintro _ rfl
      exact left_map _ _ _

theorem refGet (b : List Int) (hbl : b.length ≤ 4096) (hb : Bytes b) (s : Int) : Ev (fun n => f82_broughamref02_Get n b s) (fun r => r = if 1 ≤ s ∧ s ≤ 8 ∧ s ≤ b.length then (num (b.take s.toNat), b.drop s.toNat, true) else (0, [], false)) := by
  simp only [f82_broughamref02_Get]
  refine Ev.ite (fun h1 => ?_) (fun h1 => Ev.ite (fun h2 => ?_) (fun h2 => Ev.ite (fun h3 => ?_) (fun h3 => ?_)))
  · simp only [decide_eq_true_eq] at h1
    exact Ev.some (by rw [if_neg (by omega)])
  · simp only [decide_eq_true_eq] at h1 h2
    exact Ev.some (by rw [if_neg (by omega)])
  · simp only [decide_eq_true_eq] at h1 h2 h3
    exact Ev.some (by rw [if_neg (by omega)])
  · simp only [decide_eq_true_eq] at h1 h2 h3
    have := refInner b s.toNat (by omega) (by omega) hb s.toNat 0 0 (by omega)
    rw [show ((s.toNat : Nat) : Int) = s by omega] at this
    refine Ev.bind this ?_
    rintro _ rfl
    dsimp only
    exact Ev.guard (by simp [cutOk]; omega) (Ev.some (by rw [if_pos (by omega), List.take_length]; rfl))

theorem refGets (sizes : List Int) (hs : sizes.length ≤ 200) : ∀ (k i : Nat) (b out : List Int), i + k = sizes.length → b.length ≤ 4096 → Bytes b → out.length ≤ i →
    Ev (fun n => f84_broughamref02_All_L3 n b sizes out i) (fun r => r = left out (go b (sizes.drop i)))
  | 0, i, b, out, h, hbl, hb, ho => by
    apply Ev.succ
    simp only [f84_broughamref02_All_L3]
    exact Ev.neg (by simp; omega) (Ev.some (by rw [List.drop_eq_nil_of_le (by omega)]; simp [go, left]))
  | k + 1, i, b, out, h, hbl, hb, ho => by
    apply Ev.succ
    simp only [f84_broughamref02_All_L3]
    have hi : i < sizes.length := by omega
    rw [drop_cons hi 0, Int.toNat_natCast]
    generalize sizes.getD i 0 = s
    simp only [go]
    refine Ev.pos (by simp; omega) (Ev.guard (by omega) (Ev.bind (refGet b hbl hb s) ?_))
    rintro _ rfl
    by_cases hc : 1 ≤ s ∧ s ≤ 8 ∧ s ≤ b.length
    · simp only [if_pos hc]
      refine Ev.neg (by simp) (Ev.guard (by simp [maxLen]; omega) ?_)
      rw [i64_id (show -9223372036854775808 ≤ (i : Int) + 1 by omega) (by omega), show (i : Int) + 1 = ((i + 1 : Nat) : Int) by omega]
      refine (refGets sizes hs k (i + 1) (b.drop s.toNat) (out ++ [num (b.take s.toNat)]) (by omega) (by simp; omega) (hb.drop _) (by simp; omega)).mono ?_
      rintro _ rfl
      exact left_map _ _ _
    · simp only [if_neg hc]
      exact Ev.pos (by simp) (Ev.some rfl)

def ans (o : Option (List Int × List Int)) : List Int × List Int × Bool := match o with
  | none => ([], [], false)
  | some p => (p.1, p.2, true)

theorem go_len : ∀ (l b : List Int) (p : List Int × List Int), go b l = some p → p.2.length ≤ b.length ∧ p.1.length = l.length
  | [], b, p, h => by simp [go] at h; subst h; simp
  | s :: r, b, p, h => by
    simp only [go] at h
    split at h
    · obtain ⟨q, h1, rfl⟩ := Option.map_eq_some_iff.1 h
      have := go_len r _ q h1
      simp at this ⊢; omega
    · cases h

theorem get_is (b sizes : List Int) (hbl : b.length ≤ 4096) (hb : Bytes b) (hs : sizes.length ≤ 200) : Ev (fun n => f83_pack_Get n b sizes) (fun r => r = ans (go b sizes)) := by
  simp only [f83_pack_Get]
  refine Ev.bind (gets sizes hs sizes.length 0 b [] (by omega) hbl hb (by simp)) ?_
  rintro _ rfl
  rw [List.drop_zero]
  cases h : go b sizes with
  | none => exact Ev.some rfl
  | some p =>
    have := go_len _ _ _ h
    exact Ev.guard (by simp [maxLen]; omega) (Ev.some rfl)
theorem all_is (b sizes : List Int) (hbl : b.length ≤ 4096) (hb : Bytes b) (hs : sizes.length ≤ 200) : Ev (fun n => f84_broughamref02_All n b sizes) (fun r => r = ans (go b sizes)) := by
  simp only [f84_broughamref02_All]
  refine Ev.bind (refGets sizes hs sizes.length 0 b [] (by omega) hbl hb (by simp)) ?_
  rintro _ rfl
  rw [List.drop_zero]
  cases h : go b sizes with
  | none => exact Ev.some rfl
  | some p => exact Ev.some rfl
theorem packAll_is (b sizes : List Int) (hbl : b.length ≤ 4096) (hb : Bytes b) (hs : sizes.length ≤ 200) : Ev (fun n => f81_pack_All n b sizes) (fun r => r = if (ans (go b sizes)).2.2 = true ∧ (ans (go b sizes)).2.1 = [] then ((ans (go b sizes)).1, true) else ([], false)) := by
  simp only [f81_pack_All]
  refine Ev.bind (get_is b sizes hbl hb hs) ?_
  rintro _ rfl
  generalize ans (go b sizes) = w
  obtain ⟨x, y, z⟩ := w
  refine Ev.ite (fun h => Ev.some (by simp at h; simp [h])) (fun h => Ev.ite (fun h2 => Ev.some (by cases y <;> simp at h2 ⊢)) (fun h2 => Ev.some (by cases y <;> simp at h h2 ⊢; exact h)))

/-- The lowest bytes of a number, the highest first. -/
def be : Nat → Int → List Int
  | 0, _ => []
  | s + 1, v => be s (v / 256) ++ [v % 256]
theorem be_len : ∀ (s : Nat) (v : Int), (be s v).length = s
  | 0, _ => rfl
  | s + 1, v => by simp [be, be_len s]
theorem be_cons : ∀ (s : Nat) (v : Int), be (s + 1) v = (v / 256 ^ s % 256) :: be s v
  | 0, v => by simp [be]
  | s + 1, v => by
    rw [be, be_cons s (v / 256)]
    have : v / 256 / 256 ^ s = v / 256 ^ (s + 1) := by
      rw [Int.ediv_ediv_of_nonneg (by decide), Int.pow_succ, Int.mul_comm]
    rw [this]
    rfl
def fieldB (f : Int × Int) : List Int := if 1 ≤ f.1 ∧ f.1 ≤ 8 then be f.1.toNat f.2 else []
def enc (l : List (Int × Int)) : List Int := l.flatMap fieldB
theorem fieldB_len (f : Int × Int) : (fieldB f).length ≤ 8 := by
  unfold fieldB; split
  · rw [be_len]; omega
  · simp
theorem enc_len (l : List (Int × Int)) : (enc l).length ≤ 8 * l.length := by
  induction l with
  | nil => simp [enc]
  | cons f l ih => simp only [enc, List.flatMap_cons, List.length_append, List.length_cons] at ih ⊢; have := fieldB_len f; omega
theorem pow256 (s : Nat) : (2 : Int) ^ (8 * s) = 256 ^ s := by rw [Int.pow_mul]; rfl

theorem puts1 (t11 : List (Int × Int)) (t12 t13 f0 v : Int) (hv : 0 ≤ v) : ∀ (s : Nat) (out : List Int), s ≤ 8 → out.length + s ≤ 10000 →
    Ev (fun n => f73_pack_Put_L7 n out ((s : Int) - 1) t11 t12 t13 f0 v) (fun r => r = (out ++ be s v, t11, t12, t13))
  | 0, out, hs, hl => by
    apply Ev.succ
    simp only [f73_pack_Put_L7]
    exact Ev.neg (by simp) (Ev.some (by simp [be]))
  | s + 1, out, hs, hl => by
    apply Ev.succ
    simp only [f73_pack_Put_L7]
    have e : ((s + 1 : Nat) : Int) - 1 = s := by omega
    rw [e, i64_id (show -9223372036854775808 ≤ 8 * (s : Int) by omega) (by omega), i64_id (show -9223372036854775808 ≤ (s : Int) - 1 by omega) (by omega)]
    have e2 : min (8 * (s : Int)).toNat (IntKind.bits .u64) = 8 * s := by simp [IntKind.bits]; omega
    have e3 : IntKind.wrap .u8 (Int.fdiv v (2 ^ (8 * s))) = v / 256 ^ s % 256 := by rw [pow256, fdiv_e (Int.pow_nonneg (by decide)), w_u8]
    rw [e2, e3]
    refine Ev.pos (by simp) (Ev.guard (by omega) (Ev.guard (by simp [maxLen]; omega) ?_))
    refine (puts1 t11 t12 t13 f0 v hv s _ (by omega) (by simp; omega)).mono ?_
    rintro _ rfl
    rw [be_cons]; simp

theorem puts (l : List (Int × Int)) (hl : l.length ≤ 200) (hv : ∀ f ∈ l, 0 ≤ f.2) : ∀ (k i : Nat) (out : List Int), i + k = l.length → out.length ≤ 5000 + 8 * i →
    Ev (fun n => f73_pack_Put_L3 n out l ((l.length : Nat) : Int) i) (fun r => r = out ++ enc (l.drop i))
  | 0, i, out, h, ho => by
    apply Ev.succ
    simp only [f73_pack_Put_L3]
    exact Ev.neg (by simp; omega) (Ev.some (by rw [List.drop_eq_nil_of_le (by omega)]; simp [enc]))
  | k + 1, i, out, h, ho => by
    apply Ev.succ
    simp only [f73_pack_Put_L3]
    have hi : i < l.length := by omega
    have hf := hv _ (getD_mem hi (0, 0))
    rw [drop_cons hi (0, 0), Int.toNat_natCast]
    generalize l.getD i (0, 0) = f at hf
    obtain ⟨s, v⟩ := f
    dsimp only at hf ⊢
    have hfl := fieldB_len (s, v)
    have ih := fun (out' : List Int) ho' => puts l hl hv k (i + 1) out' (by omega) ho'
    have e : enc ((s, v) :: l.drop (i + 1)) = fieldB (s, v) ++ enc (l.drop (i + 1)) := by simp [enc]
    rw [e, i64_id (show -9223372036854775808 ≤ (i : Int) + 1 by omega) (by omega), show (i : Int) + 1 = ((i + 1 : Nat) : Int) by omega]
    refine Ev.pos (by simp; omega) (Ev.guard (by omega) (Ev.ite (fun h1 => ?_) (fun h1 => Ev.ite (fun h2 => ?_) (fun h2 => ?_))))
    · simp only [decide_eq_true_eq] at h1
      refine (ih out (by omega)).mono ?_
      rintro _ rfl
      rw [fieldB, if_neg (by simp; omega)]; rfl
    · simp only [decide_eq_true_eq] at h1 h2
      refine (ih out (by omega)).mono ?_
      rintro _ rfl
      rw [fieldB, if_neg (by simp; omega)]; rfl
    · simp only [decide_eq_true_eq] at h1 h2
      have := puts1 l ((l.length : Nat) : Int) i s v hf s.toNat out (by omega) (by omega)
      rw [show ((s.toNat : Nat) : Int) = s by omega] at this
      rw [i64_id (show -9223372036854775808 ≤ s - 1 by omega) (by omega)]
      refine Ev.bind this ?_
      rintro _ rfl
      dsimp only
      have e4 : fieldB (s, v) = be s.toNat v := by rw [fieldB, if_pos (by simp; omega)]
      rw [i64_id (show -9223372036854775808 ≤ (i : Int) + 1 by omega) (by omega), show (i : Int) + 1 = ((i + 1 : Nat) : Int) by omega]
      refine (ih (out ++ be s.toNat v) (by rw [List.length_append, be_len]; omega)).mono ?_
      rintro _ rfl
      rw [e4, List.append_assoc]

theorem put_is (b : List Int) (l : List (Int × Int)) (hb : b.length ≤ 4096) (hl : l.length ≤ 200) (hv : ∀ f ∈ l, 0 ≤ f.2) : Ev (fun n => f73_pack_Put n b l) (fun r => r = b ++ enc l) := by
  simp only [f73_pack_Put]
  refine Ev.guard (by simp [maxLen]; omega) (Ev.bind (puts l hl hv l.length 0 b (by omega) (by omega)) ?_)
  rintro _ rfl
  exact Ev.some rfl

theorem refPut : ∀ (s : Nat) (b : List Int) (v : Int), s ≤ 8 → b.length ≤ 10000 → 0 ≤ v ∧ v < 18446744073709551616 → Ev (fun n => f75_broughamref02_Put_v2 n b v (s : Int)) (fun r => r = b ++ be s v)
  | 0, b, v, hs, hb, hv => by
    apply Ev.succ
    simp only [f75_broughamref02_Put_v2]
    exact Ev.pos (by simp) (Ev.some (by simp [be]))
  | s + 1, b, v, hs, hb, hv => by
    apply Ev.succ
    simp only [f75_broughamref02_Put_v2]
    rw [tdiv_e hv.1, tmod_e hv.1, u64_id (by omega) (by omega), i64_id (by omega) (by omega), u8_id (by omega) (by omega), show ((s + 1 : Nat) : Int) - 1 = s by omega]
    refine Ev.neg (by simp; omega) (Ev.neg (by simp; omega) (Ev.bind (refPut s b (v / 256) (by omega) hb (by omega)) ?_))
    rintro _ rfl
    have := be_len s (v / 256)
    exact Ev.guard (by simp [maxLen]; omega) (Ev.some (by simp [be]))
theorem refPut2 : ∀ (s : Nat) (v : Int), s ≤ 8 → 0 ≤ v ∧ v < 18446744073709551616 → Ev (fun n => f75_broughamref02_Put n v (s : Int)) (fun r => r = be s v)
  | 0, v, hs, hv => by
    apply Ev.succ
    simp only [f75_broughamref02_Put]
    exact Ev.pos (by simp) (Ev.some (by simp [be]))
  | s + 1, v, hs, hv => by
    apply Ev.succ
    simp only [f75_broughamref02_Put]
    rw [tdiv_e hv.1, tmod_e hv.1, u64_id (by omega) (by omega), i64_id (by omega) (by omega), u8_id (by omega) (by omega), show ((s + 1 : Nat) : Int) - 1 = s by omega]
    refine Ev.neg (by simp; omega) (Ev.neg (by simp; omega) (Ev.bind (refPut2 s (v / 256) (by omega) (by omega)) ?_))
    rintro _ rfl
    have := be_len s (v / 256)
    exact Ev.guard (by simp [maxLen]; omega) (Ev.some (by simp [be]))

end Go.Proofs.YtddglebabaaghaaF08
