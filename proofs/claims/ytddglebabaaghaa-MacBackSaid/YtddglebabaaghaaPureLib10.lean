/- What functions of this text leave, in plain numbers: proved for another text, and for this one by the same steps. Conditions: none. -/
import Derived.Test.YtddglebabaaghaaF10
import Derived.Test.YtddglebabaaghaaZedPb
namespace Go.Proofs.YtddglebabaaghaaF10
open Go Zed
set_option linter.unusedVariables false
set_option linter.unusedSimpArgs false

def st (x c : Int) : Int := (x * 256 + c) % 18446744073709551616
def num (l : List Int) : Int := l.foldl st 0
def go (b : List Int) : List Int → Option (List Int × List Int)
  | [] => some ([], b)
  | s :: r => if 1 ≤ s ∧ s ≤ 8 ∧ s ≤ b.length then (go (b.drop s.toNat) r).map fun p => (num (b.take s.toNat) :: p.1, p.2) else none
theorem inner (b out : List Int) (n_ : Int) (t13 : List Int) (t14 t15 : Int) (l : List Int) (hl : l.length ≤ 8) (hb : Bytes l) : ∀ (k i : Nat) (x : Int), i + k = l.length →
    Ev (fun n => f83_pack_Get_L9 n b out n_ x t13 t14 t15 l ((l.length : Nat) : Int) i) (fun r => r = (b, out, n_, (l.drop i).foldl st x, t13, t14, t15))
  | 0, i, x, h => by
    apply Ev.succ
    simp only [f83_pack_Get_L9]
    exact Ev.neg (by simp; omega) (Ev.some (by rw [List.drop_eq_nil_of_le (by omega)]; rfl))
  | k + 1, i, x, h => by
    apply Ev.succ
    simp only [f83_pack_Get_L9]
    have hi : i < l.length := by omega
    have hc := hb _ (getD_mem hi 0)
    refine Ev.pos (by simp; omega) (Ev.guard (by omega) ?_)
    rw [Int.toNat_natCast, or_u64_byte x _ hc, i64_id (show -9223372036854775808 ≤ (i : Int) + 1 by omega) (by omega), show (i : Int) + 1 = ((i + 1 : Nat) : Int) by omega]
    refine (inner b out n_ t13 t14 t15 l hl hb k (i + 1) _ (by omega)).mono ?_
    rintro _ rfl
    rw [drop_cons hi 0]; rfl

theorem refInner (b : List Int) (m : Nat) (hm : m ≤ b.length) (hm8 : m ≤ 8) (hb : Bytes b) : ∀ (k i : Nat) (x : Int), i + k = m →
    Ev (fun n => f82_broughamref02_Get_L5 n b m x i) (fun r => r = (b, (m : Int), ((b.take m).drop i).foldl st x))
  | 0, i, x, h => by
    apply Ev.succ
    simp only [f82_broughamref02_Get_L5]
    exact Ev.neg (by simp; omega) (Ev.some (by rw [List.drop_eq_nil_of_le (by simp; omega)]; rfl))
  | k + 1, i, x, h => by
    apply Ev.succ
    simp only [f82_broughamref02_Get_L5]
    have hi : i < (b.take m).length := by simp; omega
    have hc := hb _ (getD_mem (show i < b.length by omega) 0)
    have he : (b.take m).getD i 0 = b.getD i 0 := by simp only [List.getD]; rw [List.getElem?_take, if_pos (by omega)]
    refine Ev.pos (by simp; omega) (Ev.guard (by omega) ?_)
    rw [Int.toNat_natCast, w_u64, w_u64, w_u64, i64_id (show -9223372036854775808 ≤ (i : Int) + 1 by omega) (by omega), show (i : Int) + 1 = ((i + 1 : Nat) : Int) by omega]
    refine (refInner b m hm hm8 hb k (i + 1) _ (by omega)).mono ?_
    rintro _ rfl
    rw [drop_cons hi 0, List.foldl_cons, he]
    have : st x (b.getD i 0) = (x * 256 % 18446744073709551616 + b.getD i 0 % 18446744073709551616) % 18446744073709551616 := by unfold st; omega
    rw [this]

/-- What both leave. -/
def left (out : List Int) : Option (List Int × List Int) → (List Int × List Int × Bool) ⊕ (List Int × List Int)
  | none => .inl ([], [], false)
  | some p => .inr (p.2, out ++ p.1)

theorem left_map (out : List Int) (x : Int) (o : Option (List Int × List Int)) : left (out ++ [x]) o = left out (o.map fun p => (x :: p.1, p.2)) := by
  cases o <;> simp [left]

theorem gets (sizes : List Int) (hs : sizes.length ≤ 200) : ∀ (k i : Nat) (b out : List Int), i + k = sizes.length → b.length ≤ 4096 → Bytes b → out.length ≤ i →
    Ev (fun n => f83_pack_Get_L3 n b out sizes ((sizes.length : Nat) : Int) i) (fun r => r = left out (go b (sizes.drop i)))
  | 0, i, b, out, h, hbl, hb, ho => by
    apply Ev.succ
    simp only [f83_pack_Get_L3]
    exact Ev.neg (by simp; omega) (Ev.some (by rw [List.drop_eq_nil_of_le (by omega)]; simp [go, left]))
  | k + 1, i, b, out, h, hbl, hb, ho => by
    apply Ev.succ
    simp only [f83_pack_Get_L3]
    have hi : i < sizes.length := by omega
    rw [drop_cons hi 0, Int.toNat_natCast]
    generalize sizes.getD i 0 = s
    simp only [go]
    refine Ev.pos (by simp; omega) (Ev.guard (by omega) (Ev.ite (fun h1 => ?_) (fun h1 => Ev.ite (fun h2 => ?_) (fun h2 => Ev.ite (fun h3 => ?_) (fun h3 => ?_)))))
    · simp only [decide_eq_true_eq] at h1
      exact Ev.some (by rw [if_neg (by omega)]; rfl)
    · simp only [decide_eq_true_eq] at h1 h2
      exact Ev.some (by rw [if_neg (by omega)]; rfl)
    · simp only [decide_eq_true_eq] at h1 h2 h3
      exact Ev.some (by rw [if_neg (by omega)]; rfl)
    · simp only [decide_eq_true_eq] at h1 h2 h3
      have htl : (b.take s.toNat).length = s.toNat := by simp; omega
      refine Ev.guard (by simp [cutOk]; omega) (Ev.bind (inner b out s sizes _ _ (b.take s.toNat) (by omega) (hb.take _) (b.take s.toNat).length 0 0 (by omega)) ?_)
      rintro _ rfl
      dsimp only
      refine Ev.guard (by simp [maxLen]; omega) (Ev.guard (by simp [cutOk]; omega) ?_)
      rw [i64_id (show -9223372036854775808 ≤ (i : Int) + 1 by omega) (by omega), show (i : Int) + 1 = ((i + 1 : Nat) : Int) by omega, if_pos (by omega), List.take_length]
      refine (gets sizes hs k (i + 1) (b.drop s.toNat) (out ++ [num (b.take s.toNat)]) (by omega) (by simp; omega) (hb.drop _) (by simp; omega)).mono ?_
      rintro _ rfl
      exact left_map _ _ _

theorem refGet (b : List Int) (hbl : b.length ≤ 4096) (hb : Bytes b) (s : Int) : Ev (fun n => f82_broughamref02_Get n b s) (fun r => r = if 1 ≤ s ∧ s ≤ 8 ∧ s ≤ b.length then (num (b.take s.toNat), b.drop s.toNat, true) else (0, [], false)) := by
  simp only [f82_broughamref02_Get]
  refine Ev.ite (fun h1 => ?_) (fun h1 => Ev.ite (fun h2 => ?_) (fun h2 => Ev.ite (fun h3 => ?_) (fun h3 => ?_)))
  · simp only [decide_eq_true_eq] at h1
    exact Ev.some (by rw [if_neg (by omega)])
  · simp only [decide_eq_true_eq] at h1 h2
    exact Ev.some (by rw [if_neg (by omega)])
  · simp only [decide_eq_true_eq] at h1 h2 h3
    exact Ev.some (by rw [if_neg (by omega)])
  · simp only [decide_eq_true_eq] at h1 h2 h3
    have := refInner b s.toNat (by omega) (by omega) hb s.toNat 0 0 (by omega)
    rw [show ((s.toNat : Nat) : Int) = s by omega] at this
    refine Ev.bind this ?_
    rintro _ rfl
    dsimp only
    exact Ev.guard (by simp [cutOk]; omega) (Ev.some (by rw [if_pos (by omega), List.take_length]; rfl))

theorem refGets (sizes : List Int) (hs : sizes.length ≤ 200) : ∀ (k i : Nat) (b out : List Int), i + k = sizes.length → b.length ≤ 4096 → Bytes b → out.length ≤ i →
    Ev (fun n => f84_broughamref02_All_L3 n b sizes out i) (fun r => r = left out (go b (sizes.drop i)))
  | 0, i, b, out, h, hbl, hb, ho => by
    apply Ev.succ
    simp only [f84_broughamref02_All_L3]
    exact Ev.neg (by simp; omega) (Ev.some (by rw [List.drop_eq_nil_of_le (by omega)]; simp [go, left]))
  | k + 1, i, b, out, h, hbl, hb, ho => by
    apply Ev.succ
    simp only [f84_broughamref02_All_L3]
    have hi : i < sizes.length := by omega
    rw [drop_cons hi 0, Int.toNat_natCast]
    generalize sizes.getD i 0 = s
    simp only [go]
    refine Ev.pos (by simp; omega) (Ev.guard (by omega) (Ev.bind (refGet b hbl hb s) ?_))
    rintro _ rfl
    by_cases hc : 1 ≤ s ∧ s ≤ 8 ∧ s ≤ b.length
    · simp only [if_pos hc]
      refine Ev.neg (by simp) (Ev.guard (by simp [maxLen]; omega) ?_)
      rw [i64_id (show -9223372036854775808 ≤ (i : Int) + 1 by omega) (by omega), show (i : Int) + 1 = ((i + 1 : Nat) : Int) by omega]
      refine (refGets sizes hs k (i + 1) (b.drop s.toNat) (out ++ [num (b.take s.toNat)]) (by omega) (by simp; omega) (hb.drop _) (by simp; omega)).mono ?_
      rintro _ rfl
      exact left_map _ _ _
    · simp only [if_neg hc]
      exact Ev.pos (by simp) (Ev.some rfl)

def ans (o : Option (List Int × List Int)) : List Int × List Int × Bool := match o with
  | none => ([], [], false)
  | some p => (p.1, p.2, true)

theorem go_len : ∀ (l b : List Int) (p : List Int × List Int), go b l = some p → p.2.length ≤ b.length ∧ p.1.length = l.length
  | [], b, p, h => by simp [go] at h; subst h; simp
  | s :: r, b, p, h => by
    simp only [go] at h
    split at h
    · obtain ⟨q, h1, rfl⟩ := Option.map_eq_some_iff.1 h
      have := go_len r _ q h1
      simp at this ⊢; omega
    · cases h

theorem get_is (b sizes : List Int) (hbl : b.length ≤ 4096) (hb : Bytes b) (hs : sizes.length ≤ 200) : Ev (fun n => f83_pack_Get n b sizes) (fun r => r = ans (go b sizes)) := by
  simp only [f83_pack_Get]
  refine Ev.bind (gets sizes hs sizes.length 0 b [] (by omega) hbl hb (by simp)) ?_
  rintro _ rfl
  rw [List.drop_zero]
  cases h : go b sizes with
  | none => exact Ev.some rfl
  | some p =>
    have := go_len _ _ _ h
    exact Ev.guard (by simp [maxLen]; omega) (Ev.some rfl)
theorem all_is (b sizes : List Int) (hbl : b.length ≤ 4096) (hb : Bytes b) (hs : sizes.length ≤ 200) : Ev (fun n => f84_broughamref02_All n b sizes) (fun r => r = ans (go b sizes)) := by
  simp only [f84_broughamref02_All]
  refine Ev.bind (refGets sizes hs sizes.length 0 b [] (by omega) hbl hb (by simp)) ?_
  rintro _ rfl
  rw [List.drop_zero]
  cases h : go b sizes with
  | none => exact Ev.some rfl
  | some p => exact Ev.some rfl
theorem packAll_is (b sizes : List Int) (hbl : b.length ≤ 4096) (hb : Bytes b) (hs : sizes.length ≤ 200) : Ev (fun n => f81_pack_All n b sizes) (fun r => r = if (ans (go b sizes)).2.2 = true ∧ (ans (go b sizes)).2.1 = [] then ((ans (go b sizes)).1, true) else ([], false)) := by
  simp only [f81_pack_All]
  refine Ev.bind (get_is b sizes hbl hb hs) ?_
  rintro _ rfl
  generalize ans (go b sizes) = w
  obtain ⟨x, y, z⟩ := w
  refine Ev.ite (fun h => Ev.some (by simp at h; simp [h])) (fun h => Ev.ite (fun h2 => Ev.some (by cases y <;> simp at h2 ⊢)) (fun h2 => Ev.some (by cases y <;> simp at h h2 ⊢; exact h)))

/-- The lowest bytes of a number, the highest first. -/
def be : Nat → Int → List Int
  | 0, _ => []
  | s + 1, v => be s (v / 256) ++ [v % 256]
theorem be_len : ∀ (s : Nat) (v : Int), (be s v).length = s
  | 0, _ => rfl
  | s + 1, v => by simp [be, be_len s]
theorem be_cons : ∀ (s : Nat) (v : Int), be (s + 1) v = (v / 256 ^ s % 256) :: be s v
  | 0, v => by simp [be]
  | s + 1, v => by
    rw [be, be_cons s (v / 256)]
    have : v / 256 / 256 ^ s = v / 256 ^ (s + 1) := by
      rw [Int.ediv_ediv_of_nonneg (by decide), Int.pow_succ, Int.mul_comm]
    rw [this]
    rfl
def fieldB (f : Int × Int) : List Int := if 1 ≤ f.1 ∧ f.1 ≤ 8 then be f.1.toNat f.2 else []
def enc (l : List (Int × Int)) : List Int := l.flatMap fieldB
theorem fieldB_len (f : Int × Int) : (fieldB f).length ≤ 8 := by
  unfold fieldB; split
  · rw [be_len]; omega
  · simp
theorem enc_len (l : List (Int × Int)) : (enc l).length ≤ 8 * l.length := by
  induction l with
  | nil => simp [enc]
  | cons f l ih => simp only [enc, List.flatMap_cons, List.length_append, List.length_cons] at ih ⊢; have := fieldB_len f; omega
theorem pow256 (s : Nat) : (2 : Int) ^ (8 * s) = 256 ^ s := by rw [Int.pow_mul]; rfl

theorem puts1 (t11 : List (Int × Int)) (t12 t13 f0 v : Int) (hv : 0 ≤ v) : ∀ (s : Nat) (out : List Int), s ≤ 8 → out.length + s ≤ 10000 →
    Ev (fun n => f73_pack_Put_L7 n out ((s : Int) - 1) t11 t12 t13 f0 v) (fun r => r = (out ++ be s v, t11, t12, t13))
  | 0, out, hs, hl => by
    apply Ev.succ
    simp only [f73_pack_Put_L7]
    exact Ev.neg (by simp) (Ev.some (by simp [be]))
  | s + 1, out, hs, hl => by
    apply Ev.succ
    simp only [f73_pack_Put_L7]
    have e : ((s + 1 : Nat) : Int) - 1 = s := by omega
    rw [e, i64_id (show -9223372036854775808 ≤ 8 * (s : Int) by omega) (by omega), i64_id (show -9223372036854775808 ≤ (s : Int) - 1 by omega) (by omega)]
    have e2 : min (8 * (s : Int)).toNat (IntKind.bits .u64) = 8 * s := by simp [IntKind.bits]; omega
    have e3 : IntKind.wrap .u8 (Int.fdiv v (2 ^ (8 * s))) = v / 256 ^ s % 256 := by rw [pow256, fdiv_e (Int.pow_nonneg (by decide)), w_u8]
    rw [e2, e3]
    refine Ev.pos (by simp) (Ev.guard (by omega) (Ev.guard (by simp [maxLen]; omega) ?_))
    refine (puts1 t11 t12 t13 f0 v hv s _ (by omega) (by simp; omega)).mono ?_
    rintro _ rfl
    rw [be_cons]; simp

theorem puts (l : List (Int × Int)) (hl : l.length ≤ 200) (hv : ∀ f ∈ l, 0 ≤ f.2) : ∀ (k i : Nat) (out : List Int), i + k = l.length → out.length ≤ 5000 + 8 * i →
    Ev (fun n => f73_pack_Put_L3 n out l ((l.length : Nat) : Int) i) (fun r => r = out ++ enc (l.drop i))
  | 0, i, out, h, ho => by
    apply Ev.succ
    simp only [f73_pack_Put_L3]
    exact Ev.neg (by simp; omega) (Ev.some (by rw [List.drop_eq_nil_of_le (by omega)]; simp [enc]))
  | k + 1, i, out, h, ho => by
    apply Ev.succ
    simp only [f73_pack_Put_L3]
    have hi : i < l.length := by omega
    have hf := hv _ (getD_mem hi (0, 0))
    rw [drop_cons hi (0, 0), Int.toNat_natCast]
    generalize l.getD i (0, 0) = f at hf
    obtain ⟨s, v⟩ := f
    dsimp only at hf ⊢
    have hfl := fieldB_len (s, v)
    have ih := fun (out' : List Int) ho' => puts l hl hv k (i + 1) out' (by omega) ho'
    have e : enc ((s, v) :: l.drop (i + 1)) = fieldB (s, v) ++ enc (l.drop (i + 1)) := by simp [enc]
    rw [e, i64_id (show -9223372036854775808 ≤ (i : Int) + 1 by omega) (by omega), show (i : Int) + 1 = ((i + 1 : Nat) : Int) by omega]
    refine Ev.pos (by simp; omega) (Ev.guard (by omega) (Ev.ite (fun h1 => ?_) (fun h1 => Ev.ite (fun h2 => ?_) (fun h2 => ?_))))
    · simp only [decide_eq_true_eq] at h1
      refine (ih out (by omega)).mono ?_
      rintro _ rfl
      rw [fieldB, if_neg (by simp; omega)]; rfl
    · simp only [decide_eq_true_eq] at h1 h2
      refine (ih out (by omega)).mono ?_
      rintro _ rfl
      rw [fieldB, if_neg (by simp; omega)]; rfl
    · simp only [decide_eq_true_eq] at h1 h2
      have := puts1 l ((l.length : Nat) : Int) i s v hf s.toNat out (by omega) (by omega)
      rw [show ((s.toNat : Nat) : Int) = s by omega] at this
      rw [i64_id (show -9223372036854775808 ≤ s - 1 by omega) (by omega)]
      refine Ev.bind this ?_
      rintro _ rfl
      dsimp only
      have e4 : fieldB (s, v) = be s.toNat v := by rw [fieldB, if_pos (by simp; omega)]
      rw [i64_id (show -9223372036854775808 ≤ (i : Int) + 1 by omega) (by omega), show (i : Int) + 1 = ((i + 1 : Nat) : Int) by omega]
      refine (ih (out ++ be s.toNat v) (by rw [List.length_append, be_len]; omega)).mono ?_
      rintro _ rfl
      rw [e4, List.append_assoc]

theorem put_is (b : List Int) (l : List (Int × Int)) (hb : b.length ≤ 4096) (hl : l.length ≤ 200) (hv : ∀ f ∈ l, 0 ≤ f.2) : Ev (fun n => f73_pack_Put n b l) (fun r => r = b ++ enc l) := by
  simp only [f73_pack_Put]
  refine Ev.guard (by simp [maxLen]; omega) (Ev.bind (puts l hl hv l.length 0 b (by omega) (by omega)) ?_)
  rintro _ rfl
  exact Ev.some rfl

theorem refPut : ∀ (s : Nat) (b : List Int) (v : Int), s ≤ 8 → b.length ≤ 10000 → 0 ≤ v ∧ v < 18446744073709551616 → Ev (fun n => f75_broughamref02_Put_v2 n b v (s : Int)) (fun r => r = b ++ be s v)
  | 0, b, v, hs, hb, hv => by
    apply Ev.succ
    simp only [f75_broughamref02_Put_v2]
    exact Ev.pos (by simp) (Ev.some (by simp [be]))
  | s + 1, b, v, hs, hb, hv => by
    apply Ev.succ
    simp only [f75_broughamref02_Put_v2]
    rw [tdiv_e hv.1, tmod_e hv.1, u64_id (by omega) (by omega), i64_id (by omega) (by omega), u8_id (by omega) (by omega), show ((s + 1 : Nat) : Int) - 1 = s by omega]
    refine Ev.neg (by simp; omega) (Ev.neg (by simp; omega) (Ev.bind (refPut s b (v / 256) (by omega) hb (by omega)) ?_))
    rintro _ rfl
    have := be_len s (v / 256)
    exact Ev.guard (by simp [maxLen]; omega) (Ev.some (by simp [be]))
theorem refPut2 : ∀ (s : Nat) (v : Int), s ≤ 8 → 0 ≤ v ∧ v < 18446744073709551616 → Ev (fun n => f75_broughamref02_Put n v (s : Int)) (fun r => r = be s v)
  | 0, v, hs, hv => by
    apply Ev.succ
    simp only [f75_broughamref02_Put]
    exact Ev.pos (by simp) (Ev.some (by simp [be]))
  | s + 1, v, hs, hv => by
    apply Ev.succ
    simp only [f75_broughamref02_Put]
    rw [tdiv_e hv.1, tmod_e hv.1, u64_id (by omega) (by omega), i64_id (by omega) (by omega), u8_id (by omega) (by omega), show ((s + 1 : Nat) : Int) - 1 = s by omega]
    refine Ev.neg (by simp; omega) (Ev.neg (by simp; omega) (Ev.bind (refPut2 s (v / 256) (by omega) (by omega)) ?_))
    rintro _ rfl
    have := be_len s (v / 256)
    exact Ev.guard (by simp [maxLen]; omega) (Ev.some (by simp [be]))

abbrev O := Int × List Int
def flt (k : Int) (l : List O) : List O := l.filter fun o => o.1 == k
def one (k : Int) (l : List O) : Bool × Int × List Int := match flt k l with
  | [o] => (true, o.1, o.2)
  | _ => (false, 0, [])
theorem flt_snoc (k : Int) (l : List O) (o : O) : flt k (l ++ [o]) = if o.1 == k then flt k l ++ [o] else flt k l := by
  unfold flt; rw [List.filter_append]; by_cases h : (o.1 == k) = true <;> simp [h, List.filter]
theorem take_snoc (l : List O) {i : Nat} (h : i < l.length) : l.take (i + 1) = l.take i ++ [l.getD i (0, [])] := by
  rw [List.take_succ_eq_append_getElem h]; simp [List.getD, List.getElem?_eq_getElem h]

def lst (l : List O) : O := l.getLast?.getD (0, [])
theorem lst_snoc (l : List O) (o : O) : lst (l ++ [o]) = o := by simp [lst]

theorem loop1 (k : Int) (l : List O) (hl : l.length ≤ 1000) (t4 : Int) : ∀ (m i : Nat), i + m = l.length →
    Ev (fun n => f16_opt_One_L4 n k ((flt k (l.take i)).length : Int) l ((l.length : Nat) : Int) i t4 (lst (flt k (l.take i))).1 (lst (flt k (l.take i))).2) (fun r => r = (((flt k l).length : Int), t4, (lst (flt k l)).1, (lst (flt k l)).2))
  | 0, i, h => by
    apply Ev.succ
    simp only [f16_opt_One_L4]
    exact Ev.neg (by simp; omega) (Ev.some (by rw [List.take_of_length_le (by omega)]))
  | m + 1, i, h => by
    apply Ev.succ
    simp only [f16_opt_One_L4]
    have hi : i < l.length := by omega
    have ih := loop1 k l hl t4 m (i + 1) (by omega)
    rw [take_snoc l hi, flt_snoc] at ih
    have hle : (flt k (l.take i)).length ≤ i := by
      have := List.length_filter_le (fun o : O => o.1 == k) (l.take i)
      simp only [List.length_take] at this
      unfold flt; omega
    rw [Int.toNat_natCast, i64_id (show -9223372036854775808 ≤ (i : Int) + 1 by omega) (by omega), show (i : Int) + 1 = ((i + 1 : Nat) : Int) by omega, i64_id (show -9223372036854775808 ≤ ((flt k (l.take i)).length : Int) + 1 by omega) (by omega)]
    refine Ev.pos (by simp; omega) (Ev.guard (by omega) (Ev.ite (fun hc => ?_) (fun hc => ?_)))
    · rw [if_pos hc, lst_snoc] at ih
      rw [show ((flt k (l.take i)).length : Int) + 1 = ((flt k (l.take i) ++ [l.getD i (0, [])]).length : Int) by simp]
      exact ih
    · rw [if_neg hc] at ih
      exact ih

theorem one_is (s0 s1 s2 s3 s4 : Int) (l : List O) (s6 : List Int) (k : Int) (hl : l.length ≤ 1000) : Ev (fun n => f16_opt_One n s0 s1 s2 s3 s4 l s6 k) (fun r => r = one k l) := by
  simp only [f16_opt_One]
  have h0 : Ev (fun n => f16_opt_One_L4 n k 0 l ((l.length : Nat) : Int) 0 0 0 []) (fun r => r = (((flt k l).length : Int), 0, (lst (flt k l)).1, (lst (flt k l)).2)) := loop1 k l hl 0 l.length 0 (by omega)
  refine Ev.bind h0 ?_
  rintro _ rfl
  dsimp only
  unfold one
  generalize flt k l = f
  rcases f with _ | ⟨o, _ | ⟨p, q⟩⟩
  · exact Ev.pos (by simp) (Ev.some rfl)
  · exact Ev.neg (by simp) (Ev.some rfl)
  · exact Ev.pos (by simp; omega) (Ev.some rfl)

theorem loop2 (s0 s1 s2 s3 s4 : Int) (s6 : List Int) (k : Int) (l : List O) (hl : l.length ≤ 1000) (t4 : Int) : ∀ (m i : Nat) (at_ : Int), i + m = l.length →
    ((at_ = -1 ∧ flt k (l.take i) = []) ∨ (0 ≤ at_ ∧ at_ < i ∧ flt k (l.take i) = [l.getD at_.toNat (0, [])])) →
    Ev (fun n => f17_broughamref08_One_L3 n k at_ i s0 s1 s2 s3 s4 l s6 t4) (fun r => (r = .inl (false, 0, []) ∧ one k l = (false, 0, [])) ∨ (r = .inr (-1, s0, s1, s2, s3, s4, l, s6, t4) ∧ one k l = (false, 0, [])) ∨ ∃ a : Int, 0 ≤ a ∧ a < l.length ∧ r = .inr (a, s0, s1, s2, s3, s4, l, s6, t4) ∧ one k l = (true, (l.getD a.toNat (0, [])).1, (l.getD a.toNat (0, [])).2))
  | 0, i, at_, h, hinv => by
    apply Ev.succ
    simp only [f17_broughamref08_One_L3]
    rw [List.take_of_length_le (by omega)] at hinv
    refine Ev.neg (by simp; omega) (Ev.some ?_)
    rcases hinv with ⟨rfl, he⟩ | ⟨h1, h2, he⟩
    · exact .inr (.inl ⟨rfl, by simp [one, he]⟩)
    · exact .inr (.inr ⟨at_, h1, by omega, rfl, by simp [one, he]⟩)
  | m + 1, i, at_, h, hinv => by
    apply Ev.succ
    simp only [f17_broughamref08_One_L3]
    have hi : i < l.length := by omega
    have hfs := flt_snoc k (l.take i) (l.getD i (0, []))
    rw [← take_snoc l hi] at hfs
    rw [Int.toNat_natCast, i64_id (show -9223372036854775808 ≤ (i : Int) + 1 by omega) (by omega), show (i : Int) + 1 = ((i + 1 : Nat) : Int) by omega]
    refine Ev.pos (by simp; omega) (Ev.guard (by omega) (Ev.ite (fun hc => ?_) (fun hc => Ev.ite (fun h2 => ?_) (fun h2 => ?_))))
    · have hc' : ((l.getD i (0, [])).1 == k) = false := by simpa [bne] using hc
      rw [if_neg (by rw [hc']; decide)] at hfs
      refine loop2 s0 s1 s2 s3 s4 s6 k l hl t4 m (i + 1) at_ (by omega) ?_
      rw [hfs]
      rcases hinv with ⟨rfl, he⟩ | ⟨q1, q2, he⟩
      · exact .inl ⟨rfl, he⟩
      · exact .inr ⟨q1, by omega, he⟩
    · have hc' : ((l.getD i (0, [])).1 == k) = true := by simpa [bne] using hc
      rw [if_pos hc'] at hfs
      simp only [ge_iff_le, decide_eq_true_eq] at h2
      refine Ev.some (.inl ⟨rfl, ?_⟩)
      rcases hinv with ⟨rfl, he⟩ | ⟨q1, q2, he⟩
      · omega
      · have hall : flt k l = flt k (l.take (i + 1)) ++ flt k (l.drop (i + 1)) := by unfold flt; rw [← List.filter_append, List.take_append_drop]
        unfold one
        rw [hall, hfs, he]
        rfl
    · have hc' : ((l.getD i (0, [])).1 == k) = true := by simpa [bne] using hc
      rw [if_pos hc'] at hfs
      simp only [ge_iff_le, decide_eq_true_eq] at h2
      refine loop2 s0 s1 s2 s3 s4 s6 k l hl t4 m (i + 1) i (by omega) (.inr ⟨by omega, by omega, ?_⟩)
      rcases hinv with ⟨rfl, he⟩ | ⟨q1, q2, he⟩
      · rw [hfs, he]; simp
      · omega

theorem refOne_is (s0 s1 s2 s3 s4 : Int) (l : List O) (s6 : List Int) (k : Int) (hl : l.length ≤ 1000) : Ev (fun n => f17_broughamref08_One n s0 s1 s2 s3 s4 l s6 k) (fun r => r = one k l) := by
  simp only [f17_broughamref08_One]
  refine Ev.bind (loop2 s0 s1 s2 s3 s4 s6 k l hl 0 l.length 0 (-1) (by omega) (.inl ⟨rfl, by simp [flt]⟩)) ?_
  rintro _ (⟨rfl, h⟩ | ⟨rfl, h⟩ | ⟨a, h0, h1, rfl, h⟩)
  · exact Ev.some h.symm
  · exact Ev.pos (by simp) (Ev.some h.symm)
  · exact Ev.neg (by simp; omega) (Ev.guard (by simp; omega) (Ev.some h.symm))

theorem great_is (s0 s1 s2 s3 s4 : Int) (l : List O) (s6 : List Int) : Ev (fun n => f15_broughamlaw07_Great n s0 s1 s2 s3 s4 l s6) (fun r => r = true ∨ (r = false ∧ l.length ≤ 120 ∧ s6.length ≤ 2000 ∧ ∀ o ∈ l, o.2.length ≤ 400)) := by
  have loop : ∀ (m i : Nat), i + m = l.length → l.length ≤ 120 → (∀ o ∈ l.take i, o.2.length ≤ 400) → Ev (fun n => f15_broughamlaw07_Great_L4 n i s0 s1 s2 s3 s4 l s6) (fun r => r = .inl true ∨ (r = .inr () ∧ ∀ o ∈ l, o.2.length ≤ 400)) := by
    intro m
    induction m with
    | zero =>
      intro i h hl hh
      apply Ev.succ
      simp only [f15_broughamlaw07_Great_L4]
      rw [List.take_of_length_le (by omega)] at hh
      exact Ev.neg (by simp; omega) (Ev.some (.inr ⟨rfl, hh⟩))
    | succ m ih =>
      intro i h hl hh
      apply Ev.succ
      simp only [f15_broughamlaw07_Great_L4]
      have hi : i < l.length := by omega
      rw [Int.toNat_natCast, i64_id (show -9223372036854775808 ≤ (i : Int) + 1 by omega) (by omega), show (i : Int) + 1 = ((i + 1 : Nat) : Int) by omega]
      refine Ev.pos (by simp; omega) (Ev.guard (by omega) (Ev.ite (fun _ => Ev.some (.inl rfl)) (fun h2 => ih (i + 1) (by omega) hl ?_)))
      simp only [gt_iff_lt, decide_eq_true_eq] at h2
      rw [take_snoc l hi]
      intro o ho
      rcases List.mem_append.1 ho with h3 | h3
      · exact hh o h3
      · simp only [List.mem_singleton] at h3; subst h3; omega
  simp only [f15_broughamlaw07_Great]
  refine Ev.ite (fun _ => Ev.some (.inl rfl)) (fun h1 => Ev.ite (fun _ => Ev.some (.inl rfl)) (fun h2 => ?_))
  simp only [gt_iff_lt, decide_eq_true_eq] at h1 h2
  refine Ev.bind (loop l.length 0 (by omega) (by omega) (by simp)) ?_
  rintro _ (rfl | ⟨rfl, h⟩)
  · exact Ev.some (.inl rfl)
  · exact Ev.some (.inr ⟨rfl, by omega, by omega, h⟩)

abbrev U64 (x : Int) : Prop := 0 ≤ x ∧ x < 18446744073709551616
abbrev U32 (x : Int) : Prop := 0 ≤ x ∧ x < 4294967296
abbrev U8 (x : Int) : Prop := 0 ≤ x ∧ x < 256
theorem be_bytes : ∀ (s : Nat) (v : Int), Bytes (be s v)
  | 0, _ => Bytes.nil
  | s + 1, v => (be_bytes s (v / 256)).append (Bytes.cons (by omega) Bytes.nil)
theorem be1 {x : Int} (h : U8 x) : be 1 x = [x] := by simp [be]; omega
def bit (b : Bool) : Int := if b then 1 else 0
theorem bit_in (b : Bool) : U8 (bit b) := by cases b <;> decide
theorem flag_is (b : Bool) : f78_pack_Flag b = some (1, bit b) := by cases b <;> rfl
theorem refBit_is (b : Bool) : f79_broughamref08_bit b = some (bit b) := by cases b <;> rfl
theorem W_is {x : Int} (h : U32 x) : f76_pack_W x = some (4, x) := by unfold f76_pack_W; rw [u64_id h.1 (by omega)]
theorem B_is {x : Int} (h : U8 x) : f77_pack_B x = some (1, x) := by unfold f77_pack_B; rw [u64_id h.1 (by omega)]
theorem Q_is (x : Int) : f74_pack_Q x = some (8, x) := rfl
theorem enc_cons (s : Int) (v : Int) (l : List (Int × Int)) : enc ((s, v) :: l) = fieldB (s, v) ++ enc l := by simp [enc]
theorem f1 (v : Int) : fieldB (1, v) = be 1 v := rfl
theorem f4 (v : Int) : fieldB (4, v) = be 4 v := rfl
theorem f8 (v : Int) : fieldB (8, v) = be 8 v := rfl

def keyB (a : Int) (b : Bool) (c : Int) : List Int := be 8 a ++ if b then be 8 c else []
theorem key_is (a : Int) (b : Bool) (c : Int) (ha : U64 a) (hc : U64 c) : Ev (fun n => f21_opt_Key_Option n a b c) (fun r => r = (1, keyB a b c)) := by
  simp only [f21_opt_Key_Option, Q_is, Option.bind_some]
  refine Ev.bind (put_is [] [(8, a)] (by simp) (by simp) (fun f hf => by simp at hf; subst hf; exact ha.1)) ?_
  rintro _ rfl
  have e : [] ++ enc [((8 : Int), a)] = be 8 a := by simp [enc_cons, f8]; rfl
  rw [e]
  cases b with
  | false => exact Ev.neg (by decide) (Ev.some (by simp [keyB]))
  | true =>
    refine Ev.pos rfl (Ev.bind (put_is _ [(8, c)] (by rw [be_len]; omega) (by simp) (fun f hf => by simp at hf; subst hf; exact hc.1)) ?_)
    rintro _ rfl
    exact Ev.some (by simp [keyB, enc_cons, f8]; rfl)
theorem refKey_is (a : Int) (b : Bool) (c : Int) (ha : U64 a) (hc : U64 c) : Ev (fun n => f22_broughamref08_Key n a c b) (fun r => r = keyB a b c) := by
  simp only [f22_broughamref08_Key]
  refine Ev.bind (refPut2 8 a (by omega) ha) ?_
  rintro _ rfl
  cases b with
  | false => exact Ev.neg (by decide) (Ev.some (by simp [keyB]))
  | true =>
    refine Ev.pos rfl (Ev.bind (refPut 8 _ c (by omega) (by rw [be_len]; omega) hc) ?_)
    rintro _ rfl
    exact Ev.some (by simp [keyB])

def joinB (a b c : Int) (d e : Bool) (f : Int) : List Int := be 4 a ++ be 4 b ++ [c] ++ [bit d] ++ if e then be 8 f else []
theorem join_is (a b c : Int) (d e : Bool) (f : Int) (ha : U32 a) (hb : U32 b) (hc : U8 c) (hf : U64 f) : Ev (fun n => f23_opt_Join_Option n a b c d e f) (fun r => r = (2, joinB a b c d e f)) := by
  simp only [f23_opt_Join_Option, W_is ha, W_is hb, B_is hc, flag_is, Q_is, Option.bind_some]
  refine Ev.bind (put_is [] [(4, a), (4, b), (1, c), (1, bit d)] (by simp) (by simp) (fun x hx => by
    simp at hx; rcases hx with rfl | rfl | rfl | rfl
    · exact ha.1
    · exact hb.1
    · exact hc.1
    · exact (bit_in d).1)) ?_
  rintro _ rfl
  have e1 : [] ++ enc [((4 : Int), a), (4, b), (1, c), (1, bit d)] = be 4 a ++ be 4 b ++ [c] ++ [bit d] := by
    simp only [enc_cons, f4, f1, be1 hc, be1 (bit_in d)]; simp [enc]
  rw [e1]
  cases e with
  | false => exact Ev.neg (by decide) (Ev.some (by simp [joinB]))
  | true =>
    refine Ev.pos rfl (Ev.bind (put_is _ [(8, f)] (by simp [be_len]) (by simp) (fun x hx => by simp at hx; subst hx; exact hf.1)) ?_)
    rintro _ rfl
    refine Ev.some ?_
    simp only [enc_cons, f8, joinB]; simp [enc]
theorem refJoin_is (a b c : Int) (d e : Bool) (f : Int) (ha : U32 a) (hb : U32 b) (hc : U8 c) (hf : U64 f) : Ev (fun n => f24_broughamref08_Join n a b c d e f) (fun r => r = joinB a b c d e f) := by
  simp only [f24_broughamref08_Join]
  rw [u64_id ha.1 (by omega), u64_id hb.1 (by omega)]
  refine Ev.bind (refPut2 4 a (by omega) (by omega)) ?_
  rintro _ rfl
  refine Ev.bind (refPut 4 _ b (by omega) (by rw [be_len]; omega) (by omega)) ?_
  rintro _ rfl
  refine Ev.guard (by simp [maxLen, be_len]) ?_
  simp only [refBit_is, Option.bind_some]
  have hbi := bit_in d
  refine Ev.bind (refPut 1 _ (bit d) (by omega) (by simp [be_len]) (by omega)) ?_
  rintro _ rfl
  rw [be1 (bit_in d)]
  cases e with
  | false => exact Ev.neg (by decide) (Ev.some (by simp [joinB]))
  | true =>
    refine Ev.pos rfl (Ev.bind (refPut 8 _ f (by omega) (by simp [be_len]) hf) ?_)
    rintro _ rfl
    exact Ev.some (by simp [joinB])

def dataB (a b : Bool) (c d e f : Int) : List Int := [bit a + 2 * bit b] ++ be 8 c ++ be 8 d ++ be 4 e ++ be 8 f
theorem dbit_in (a b : Bool) : U8 (bit a + 2 * bit b) := by cases a <;> cases b <;> decide
theorem bits_is (a b : Bool) : f80_opt_bits a b = some (bit a + 2 * bit b) := by cases a <;> cases b <;> decide
theorem data_is (a b : Bool) (c d e f : Int) (hc : U64 c) (hd : U64 d) (he : U32 e) (hf : U64 f) : Ev (fun n => f26_opt_Data_Option n a b c d e f) (fun r => r = (3, dataB a b c d e f)) := by
  simp only [f26_opt_Data_Option, bits_is, Option.bind_some, B_is (dbit_in a b), Q_is, W_is he]
  refine Ev.bind (put_is [] [(1, bit a + 2 * bit b), (8, c), (8, d), (4, e), (8, f)] (by simp) (by simp) (fun x hx => by
    simp at hx; rcases hx with rfl | rfl | rfl | rfl | rfl
    · exact (dbit_in a b).1
    · exact hc.1
    · exact hd.1
    · exact he.1
    · exact hf.1)) ?_
  rintro _ rfl
  refine Ev.some ?_
  simp only [enc_cons, f8, f4, f1, be1 (dbit_in a b), dataB]; simp [enc]
theorem refData_is (a b : Bool) (c d e f : Int) (hc : U64 c) (hd : U64 d) (he : U32 e) (hf : U64 f) : Ev (fun n => f27_broughamref08_Data n a b c d e f) (fun r => r = dataB a b c d e f) := by
  have hbi := dbit_in a b
  have hb := bit_in b
  simp only [f27_broughamref08_Data, refBit_is, Option.bind_some]
  rw [u64_id (show 0 ≤ 2 * bit b by omega) (by omega), u64_id (show 0 ≤ bit a + 2 * bit b by omega) (by omega), u64_id he.1 (by omega)]
  refine Ev.bind (refPut2 1 _ (by omega) (by omega)) ?_
  rintro _ rfl
  refine Ev.bind (refPut 8 _ c (by omega) (by simp [be_len]) hc) ?_
  rintro _ rfl
  refine Ev.bind (refPut 8 _ d (by omega) (by simp [be_len]) hd) ?_
  rintro _ rfl
  refine Ev.bind (refPut 4 _ e (by omega) (by simp [be_len]) (by omega)) ?_
  rintro _ rfl
  refine Ev.bind (refPut 8 _ f (by omega) (by simp [be_len]) hf) ?_
  rintro _ rfl
  exact Ev.some (by rw [be1 hbi]; rfl)

def wordB (a b c : Int) (d : Bool) (e : Int) : List Int := be 4 a ++ [b, c] ++ [bit d] ++ be 8 e
theorem word_is (k a b c : Int) (d : Bool) (e : Int) (ha : U32 a) (hb : U8 b) (hc : U8 c) (he : U64 e) : Ev (fun n => f29_opt_Word_Option n k a b c d e) (fun r => r = (k, wordB a b c d e)) := by
  simp only [f29_opt_Word_Option, W_is ha, B_is hb, B_is hc, flag_is, Q_is, Option.bind_some]
  refine Ev.bind (put_is [] [(4, a), (1, b), (1, c), (1, bit d), (8, e)] (by simp) (by simp) (fun x hx => by
    simp at hx; rcases hx with rfl | rfl | rfl | rfl | rfl
    · exact ha.1
    · exact hb.1
    · exact hc.1
    · exact (bit_in d).1
    · exact he.1)) ?_
  rintro _ rfl
  refine Ev.some ?_
  simp only [enc_cons, f8, f4, f1, be1 hb, be1 hc, be1 (bit_in d), wordB]; simp [enc]
theorem refWord_is (a b c : Int) (d : Bool) (e : Int) (ha : U32 a) (hb : U8 b) (hc : U8 c) (he : U64 e) : Ev (fun n => f30_broughamref08_Word n a b c d e) (fun r => r = wordB a b c d e) := by
  have hbi := bit_in d
  simp only [f30_broughamref08_Word]
  rw [u64_id ha.1 (by omega)]
  refine Ev.bind (refPut2 4 a (by omega) (by omega)) ?_
  rintro _ rfl
  refine Ev.guard (by simp [maxLen, be_len]) ?_
  simp only [refBit_is, Option.bind_some]
  refine Ev.bind (refPut 1 _ (bit d) (by omega) (by simp [be_len]) (by omega)) ?_
  rintro _ rfl
  refine Ev.bind (refPut 8 _ e (by omega) (by simp [be_len]) he) ?_
  rintro _ rfl
  exact Ev.some (by rw [be1 hbi]; rfl)
theorem num_in (l : List Int) (hl : l.length ≤ 8) (hb : Bytes l) : 0 ≤ num l ∧ num l < 256 ^ l.length := by
  have gen : ∀ (l : List Int) (x : Int), Bytes l → 0 ≤ x → (x + 1) * 256 ^ l.length ≤ 18446744073709551616 → 0 ≤ l.foldl st x ∧ l.foldl st x < (x + 1) * 256 ^ l.length := by
    intro l
    induction l with
    | nil => intro x _ h0 h1; simp at h1 ⊢; omega
    | cons c l ih =>
      intro x hb h0 h1
      have hc := hb.head
      rw [List.length_cons, Int.pow_succ, Int.mul_comm (256 ^ l.length) 256, ← Int.mul_assoc] at h1
      have hp : 1 ≤ (256 : Int) ^ l.length := Int.pow_pos (by decide)
      have hx : (x + 1) * 256 ≤ 18446744073709551616 := by
        have := Int.mul_le_mul_of_nonneg_left hp (show 0 ≤ (x + 1) * 256 by omega)
        omega
      have e : st x c = x * 256 + c := by unfold st; omega
      rw [List.foldl_cons, e]
      have hm : (x * 256 + c + 1) * 256 ^ l.length ≤ (x + 1) * 256 * 256 ^ l.length := Int.mul_le_mul_of_nonneg_right (by omega) (by omega)
      obtain ⟨i1, i2⟩ := ih (x * 256 + c) hb.tail (by omega) (by omega)
      refine ⟨i1, ?_⟩
      rw [List.length_cons, Int.pow_succ, Int.mul_comm (256 ^ l.length) 256, ← Int.mul_assoc]
      omega
  have hp : (256 : Int) ^ l.length ≤ 256 ^ 8 := by
    have := Nat.pow_le_pow_right (n := 256) (by decide) hl
    have := Int.ofNat_le.2 this
    rw [Int.natCast_pow, Int.natCast_pow] at this
    exact this
  have := gen l 0 hb (by omega) (by rw [show (256 : Int) ^ 8 = 18446744073709551616 by decide] at hp; omega)
  unfold num
  simpa using this

/-- What is read of five sizes, or four. -/
theorem go4 {b : List Int} {a1 a2 a3 a4 : Int} {p : List Int × List Int} (h : go b [a1, a2, a3, a4] = some p) : ∃ x1 x2 x3 x4, p.1 = [x1, x2, x3, x4] := by
  have := (go_len _ _ _ h).2
  match hp : p.1, this with
  | [x1, x2, x3, x4], _ => exact ⟨x1, x2, x3, x4, rfl⟩
theorem go5 {b : List Int} {a1 a2 a3 a4 a5 : Int} {p : List Int × List Int} (h : go b [a1, a2, a3, a4, a5] = some p) : ∃ x1 x2 x3 x4 x5, p.1 = [x1, x2, x3, x4, x5] := by
  have := (go_len _ _ _ h).2
  match hp : p.1, this with
  | [x1, x2, x3, x4, x5], _ => exact ⟨x1, x2, x3, x4, x5, rfl⟩
theorem go_first {b : List Int} {a : Int} {l : List Int} {p : List Int × List Int} (hb : Bytes b) (h : go b (a :: l) = some p) : ∃ r, p.1 = num (b.take a.toNat) :: r ∧ 1 ≤ a ∧ a ≤ 8 ∧ a ≤ b.length := by
  simp only [go] at h
  split at h
  · rename_i hc
    obtain ⟨q, _, rfl⟩ := Option.map_eq_some_iff.1 h
    exact ⟨q.1, rfl, hc.1, hc.2.1, hc.2.2⟩
  · cases h

theorem go_8 (b : List Int) : go b [8] = if 8 ≤ b.length then some ([num (b.take 8)], b.drop 8) else none := by
  simp only [go]
  by_cases h : (8 : Int) ≤ b.length
  · rw [if_pos (by omega), if_pos (by omega)]; rfl
  · rw [if_neg (by omega), if_neg (by omega)]
theorem go_88 (b : List Int) : go b [8, 8] = if 16 ≤ b.length then some ([num (b.take 8), num ((b.drop 8).take 8)], b.drop 16) else none := by
  rw [go, go_8]
  by_cases h : (8 : Int) ≤ b.length
  · rw [if_pos (by omega)]
    by_cases h2 : 16 ≤ b.length
    · rw [if_pos (by simp; omega), if_pos h2]; simp
    · rw [if_neg (by simp; omega), if_neg h2]; rfl
  · rw [if_neg (by omega), if_neg (by omega)]

def pkey (k : Int) (b : List Int) : Bool × Int × Bool × Int :=
  if k = 1 then if b.length = 8 then (true, num (b.take 8), false, 0) else if b.length = 16 then (true, num (b.take 8), true, num ((b.drop 8).take 8)) else (false, 0, false, 0) else (false, 0, false, 0)
def pjoin (k : Int) (b : List Int) : Bool × Int × Int × Int × Bool × Bool × Int :=
  if k = 2 then match go b [4, 4, 1, 1] with
    | some ([x1, x2, x3, x4], r) => if x4 > 1 then (false, 0, 0, 0, false, false, 0) else if r.length = 0 then (true, IntKind.wrap .u32 x1, IntKind.wrap .u32 x2, IntKind.wrap .u8 x3, x4 == 1, false, 0)
      else if r.length = 8 then (true, IntKind.wrap .u32 x1, IntKind.wrap .u32 x2, IntKind.wrap .u8 x3, x4 == 1, true, num (r.take 8)) else (false, 0, 0, 0, false, false, 0)
    | _ => (false, 0, 0, 0, false, false, 0)
  else (false, 0, 0, 0, false, false, 0)
theorem go_bytes : ∀ (l b : List Int) (p : List Int × List Int), go b l = some p → Bytes b → Bytes p.2
  | [], b, p, h, hb => by cases h; exact hb
  | s :: l, b, p, h, hb => by
    simp only [go] at h
    split at h
    · obtain ⟨q, h1, rfl⟩ := Option.map_eq_some_iff.1 h
      exact go_bytes l _ q h1 (hb.drop _)
    · cases h
def pdata (k : Int) (b : List Int) : Bool × Bool × Bool × Int × Int × Int × Int :=
  if k = 3 then match go b [1, 8, 8, 4, 8] with
    | some ([x1, x2, x3, x4, x5], []) => if x1 > 3 then (false, false, false, 0, 0, 0, 0) else (true, x1 % 2 == 1, decide (x1 > 1), x2, x3, IntKind.wrap .u32 x4, x5)
    | _ => (false, false, false, 0, 0, 0, 0)
  else (false, false, false, 0, 0, 0, 0)
theorem first_in {b : List Int} {a : Int} {l : List Int} {x : Int} {r : List Int} {q : List Int} (hb : Bytes b) (h : go b (a :: l) = some (x :: r, q)) : 0 ≤ x := by
  obtain ⟨r', h1, h2, h3, h4⟩ := go_first hb h
  simp only [List.cons.injEq] at h1
  rw [h1.1]
  exact (num_in _ (by simp; omega) (hb.take _)).1
theorem pdata_is (k : Int) (b : List Int) (hb : Bytes b) (hl : b.length ≤ 400) : Ev (fun n => f36_opt_ParseData n k b) (fun r => r = pdata k b) := by
  simp only [f36_opt_ParseData]
  refine Ev.bind (packAll_is b [1, 8, 8, 4, 8] (by omega) hb (by simp)) ?_
  rintro _ rfl
  unfold pdata
  refine Ev.ite (fun h => ?_) (fun h => ?_)
  · have hk : ¬ k = 3 := by simpa [bne] using h
    rw [if_neg hk]; exact Ev.some rfl
  · have hk : k = 3 := by simpa [bne] using h
    rw [if_pos hk]
    cases hg : go b [1, 8, 8, 4, 8] with
    | none => exact Ev.pos rfl (Ev.some rfl)
    | some p =>
      obtain ⟨x1, x2, x3, x4, x5, hp⟩ := go5 hg
      obtain ⟨q, r⟩ := p
      dsimp only at hp
      subst hp
      have hx := first_in hb hg
      cases r with
      | cons y ys => exact Ev.pos rfl (Ev.some rfl)
      | nil =>
        simp only [ans, and_self, if_true]
        refine Ev.neg (by decide) (Ev.guard (by simp) (Ev.ite (fun h4 => ?_) (fun h4 => ?_)))
        · have h4' : x1 > 3 := by simpa [List.getD] using h4
          rw [if_pos h4']; exact Ev.some rfl
        · have h4' : ¬ x1 > 3 := by simpa [List.getD] using h4
          rw [if_neg h4']
          refine Ev.guard (by simp) (Ev.guard (by simp) (Ev.guard (by simp) (Ev.guard (by simp) (Ev.guard (by simp) (Ev.guard (by simp) (Ev.some ?_))))))
          show (true, ((bits .and .u64 x1 1) == 1), ((bits .and .u64 x1 2) == 2), x2, x3, IntKind.wrap .u32 x4, x5) = _
          have hc : x1 = 0 ∨ x1 = 1 ∨ x1 = 2 ∨ x1 = 3 := by omega
          rcases hc with rfl | rfl | rfl | rfl <;> rfl
theorem refPdata_is (k : Int) (b : List Int) (hb : Bytes b) (hl : b.length ≤ 400) : Ev (fun n => f37_broughamref08_ParseData n k b) (fun r => r = pdata k b) := by
  simp only [f37_broughamref08_ParseData]
  refine Ev.bind (all_is b [1, 8, 8, 4, 8] (by omega) hb (by simp)) ?_
  rintro _ rfl
  unfold pdata
  refine Ev.ite (fun h => ?_) (fun h => ?_)
  · have hk : ¬ k = 3 := by simpa [bne] using h
    rw [if_neg hk]; exact Ev.some rfl
  · have hk : k = 3 := by simpa [bne] using h
    rw [if_pos hk]
    cases hg : go b [1, 8, 8, 4, 8] with
    | none => exact Ev.pos rfl (Ev.some rfl)
    | some p =>
      obtain ⟨x1, x2, x3, x4, x5, hp⟩ := go5 hg
      obtain ⟨q, r⟩ := p
      dsimp only at hp
      subst hp
      have hx := first_in hb hg
      simp only [ans]
      refine Ev.neg (by decide) (Ev.guard (by simp) (Ev.ite (fun h4 => ?_) (fun h4 => ?_)))
      · have h4' : x1 > 3 := by simpa [List.getD] using h4
        cases r with
        | cons y ys => exact Ev.some rfl
        | nil => dsimp only; rw [if_pos h4']; exact Ev.some rfl
      · have h4' : ¬ x1 > 3 := by simpa [List.getD] using h4
        cases r with
        | cons y ys => exact Ev.pos (by simp; omega) (Ev.some rfl)
        | nil =>
          dsimp only
          rw [if_neg h4']
          refine Ev.neg (by decide) (Ev.guard (by simp) (Ev.guard (by simp) (Ev.guard (by simp) (Ev.guard (by simp) (Ev.guard (by simp) (Ev.guard (by simp) (Ev.some ?_)))))))
          show (true, (Int.tmod x1 2 == 1), decide (x1 > 1), x2, x3, IntKind.wrap .u32 x4, x5) = _
          rw [tmod_e hx]

def pword (k : Int) (b : List Int) : Bool × Int × Int × Int × Int × Bool × Int :=
  if 4 ≤ k ∧ k ≤ 7 then match go b [4, 1, 1, 1, 8] with
    | some ([x1, x2, x3, x4, x5], []) => if x4 > 1 then (false, 0, 0, 0, 0, false, 0) else (true, k, IntKind.wrap .u32 x1, IntKind.wrap .u8 x2, IntKind.wrap .u8 x3, x4 == 1, x5)
    | _ => (false, 0, 0, 0, 0, false, 0)
  else (false, 0, 0, 0, 0, false, 0)
theorem pword_is (k : Int) (b : List Int) (hb : Bytes b) (hl : b.length ≤ 400) : Ev (fun n => f38_opt_ParseWord n k b) (fun r => r = pword k b) := by
  simp only [f38_opt_ParseWord]
  refine Ev.bind (packAll_is b [4, 1, 1, 1, 8] (by omega) hb (by simp)) ?_
  rintro _ rfl
  unfold pword
  refine Ev.ite (fun h => ?_) (fun h => Ev.ite (fun h2 => ?_) (fun h2 => ?_))
  · simp only [decide_eq_true_eq] at h
    rw [if_neg (show ¬ (4 ≤ k ∧ k ≤ 7) by omega)]; exact Ev.some rfl
  · simp only [decide_eq_true_eq] at h h2
    rw [if_neg (show ¬ (4 ≤ k ∧ k ≤ 7) by omega)]; exact Ev.some rfl
  · simp only [decide_eq_true_eq] at h h2
    rw [if_pos (show 4 ≤ k ∧ k ≤ 7 by omega)]
    cases hg : go b [4, 1, 1, 1, 8] with
    | none => exact Ev.pos rfl (Ev.some rfl)
    | some p =>
      obtain ⟨x1, x2, x3, x4, x5, hp⟩ := go5 hg
      obtain ⟨q, r⟩ := p
      dsimp only at hp
      subst hp
      cases r with
      | cons y ys => exact Ev.pos rfl (Ev.some rfl)
      | nil =>
        simp only [ans, and_self, if_true]
        refine Ev.neg (by decide) (Ev.guard (by simp) (Ev.ite (fun h4 => ?_) (fun h4 => ?_)))
        · have h4' : x4 > 1 := by simpa [List.getD] using h4
          rw [if_pos h4']; exact Ev.some rfl
        · have h4' : ¬ x4 > 1 := by simpa [List.getD] using h4
          rw [if_neg h4']
          exact Ev.guard (by simp) (Ev.guard (by simp) (Ev.guard (by simp) (Ev.guard (by simp) (Ev.guard (by simp) (Ev.some rfl)))))
theorem refPword_is (k : Int) (b : List Int) (hb : Bytes b) (hl : b.length ≤ 400) : Ev (fun n => f39_broughamref08_ParseWord n k b) (fun r => r = ((pword k b).1, (pword k b).2.2.1, (pword k b).2.2.2.1, (pword k b).2.2.2.2.1, (pword k b).2.2.2.2.2.1, (pword k b).2.2.2.2.2.2)) := by
  simp only [f39_broughamref08_ParseWord]
  refine Ev.bind (all_is b [4, 1, 1, 1, 8] (by omega) hb (by simp)) ?_
  rintro _ rfl
  unfold pword
  refine Ev.ite (fun h => ?_) (fun h => Ev.ite (fun h2 => ?_) (fun h2 => ?_))
  · simp only [decide_eq_true_eq] at h
    rw [if_neg (show ¬ (4 ≤ k ∧ k ≤ 7) by omega)]; exact Ev.some rfl
  · simp only [decide_eq_true_eq] at h h2
    rw [if_neg (show ¬ (4 ≤ k ∧ k ≤ 7) by omega)]; exact Ev.some rfl
  · simp only [decide_eq_true_eq] at h h2
    rw [if_pos (show 4 ≤ k ∧ k ≤ 7 by omega)]
    cases hg : go b [4, 1, 1, 1, 8] with
    | none => exact Ev.pos rfl (Ev.some rfl)
    | some p =>
      obtain ⟨x1, x2, x3, x4, x5, hp⟩ := go5 hg
      obtain ⟨q, r⟩ := p
      dsimp only at hp
      subst hp
      simp only [ans]
      refine Ev.neg (by decide) (Ev.guard (by simp) (Ev.ite (fun h4 => ?_) (fun h4 => ?_)))
      · have h4' : x4 > 1 := by simpa [List.getD] using h4
        cases r with
        | cons y ys => exact Ev.some rfl
        | nil => dsimp only; rw [if_pos h4']; exact Ev.some rfl
      · have h4' : ¬ x4 > 1 := by simpa [List.getD] using h4
        cases r with
        | cons y ys => exact Ev.pos (by simp; omega) (Ev.some rfl)
        | nil =>
          dsimp only
          rw [if_neg h4']
          exact Ev.neg (by decide) (Ev.guard (by simp) (Ev.guard (by simp) (Ev.guard (by simp) (Ev.guard (by simp) (Ev.guard (by simp) (Ev.some rfl))))))
theorem pword_kind (k : Int) (b : List Int) : ((pword k b).1 = true ∧ (pword k b).2.1 = k) ∨ ((pword k b).1 = false ∧ (pword k b).2.1 = 0) := by
  unfold pword
  split
  · split
    · split
      · exact .inr ⟨rfl, rfl⟩
      · exact .inl ⟨rfl, rfl⟩
    · exact .inr ⟨rfl, rfl⟩
  · exact .inr ⟨rfl, rfl⟩
end Go.Proofs.YtddglebabaaghaaF10
