/- PackGets: the numbers at the beginning of any bytes, as the document says: of the functions that text F02 prints. Conditions: none. -/
import Derived.Test.YtjmebloeodcoaaaF02
import Derived.Test.YtjmebloeodcoaaaZedPa
namespace Go.Proofs.YtjmebloeodcoaaaF02
open Go Zed
set_option linter.unusedVariables false
set_option linter.unusedSimpArgs false

def st (x c : Int) : Int := (x * 256 + c) % 18446744073709551616
def num (l : List Int) : Int := l.foldl st 0
def go (b : List Int) : List Int → Option (List Int × List Int)
  | [] => some ([], b)
  | s :: r => if 1 ≤ s ∧ s ≤ 8 ∧ s ≤ b.length then (go (b.drop s.toNat) r).map fun p => (num (b.take s.toNat) :: p.1, p.2) else none
def Bytes (b : List Int) : Prop := ∀ x ∈ b, 0 ≤ x ∧ x < 256
theorem Bytes.drop {b : List Int} (h : Bytes b) (n : Nat) : Bytes (b.drop n) := fun x hx => h x (List.mem_of_mem_drop hx)
theorem Bytes.take {b : List Int} (h : Bytes b) (n : Nat) : Bytes (b.take n) := fun x hx => h x (List.mem_of_mem_take hx)

theorem inner (b out : List Int) (n_ : Int) (t13 : List Int) (t14 t15 : Int) (l : List Int) (hl : l.length ≤ 8) (hb : Bytes l) : ∀ (k i : Nat) (x : Int), i + k = l.length →
    Ev (fun n => f47_pack_Get_L9 n b out n_ x t13 t14 t15 l ((l.length : Nat) : Int) i) (fun r => r = (b, out, n_, (l.drop i).foldl st x, t13, t14, t15))
  | 0, i, x, h => by
    apply Ev.succ
    simp only [f47_pack_Get_L9]
    exact Ev.neg (by simp; omega) (Ev.some (by rw [List.drop_eq_nil_of_le (by omega)]; rfl))
  | k + 1, i, x, h => by
    apply Ev.succ
    simp only [f47_pack_Get_L9]
    have hi : i < l.length := by omega
    have hc := hb _ (getD_mem hi 0)
    refine Ev.pos (by simp; omega) (Ev.guard (by omega) ?_)
    rw [Int.toNat_natCast, or_u64_byte x _ hc, i64_id (show -9223372036854775808 ≤ (i : Int) + 1 by omega) (by omega), show (i : Int) + 1 = ((i + 1 : Nat) : Int) by omega]
    refine (inner b out n_ t13 t14 t15 l hl hb k (i + 1) _ (by omega)).mono ?_
    rintro _ rfl
    rw [drop_cons hi 0]; rfl

theorem refInner (b : List Int) (m : Nat) (hm : m ≤ b.length) (hm8 : m ≤ 8) (hb : Bytes b) : ∀ (k i : Nat) (x : Int), i + k = m →
    Ev (fun n => f62_broughamref02_Get_L5 n b m x i) (fun r => r = (b, (m : Int), ((b.take m).drop i).foldl st x))
  | 0, i, x, h => by
    apply Ev.succ
    simp only [f62_broughamref02_Get_L5]
    exact Ev.neg (by simp; omega) (Ev.some (by rw [List.drop_eq_nil_of_le (by simp; omega)]; rfl))
  | k + 1, i, x, h => by
    apply Ev.succ
    simp only [f62_broughamref02_Get_L5]
    have hi : i < (b.take m).length := by simp; omega
    have hc := hb _ (getD_mem (show i < b.length by omega) 0)
    have he : (b.take m).getD i 0 = b.getD i 0 := by simp only [List.getD]; rw [List.getElem?_take, if_pos (by omega)]
    refine Ev.pos (by simp; omega) (Ev.guard (by omega) ?_)
    rw [Int.toNat_natCast, w_u64, w_u64, w_u64, i64_id (show -9223372036854775808 ≤ (i : Int) + 1 by omega) (by omega), show (i : Int) + 1 = ((i + 1 : Nat) : Int) by omega]
    refine (refInner b m hm hm8 hb k (i + 1) _ (by omega)).mono ?_
    rintro _ rfl
    rw [drop_cons hi 0, List.foldl_cons, he]
    have : st x (b.getD i 0) = (x * 256 % 18446744073709551616 + b.getD i 0 % 18446744073709551616) % 18446744073709551616 := by unfold st; omega
    rw [this]

/-- What both leave. -/
def left (out : List Int) : Option (List Int × List Int) → (List Int × List Int × Bool) ⊕ (List Int × List Int)
  | none => .inl ([], [], false)
  | some p => .inr (p.2, out ++ p.1)

theorem left_map (out : List Int) (x : Int) (o : Option (List Int × List Int)) : left (out ++ [x]) o = left out (o.map fun p => (x :: p.1, p.2)) := by
  cases o <;> simp [left]

theorem gets (sizes : List Int) (hs : sizes.length ≤ 200) : ∀ (k i : Nat) (b out : List Int), i + k = sizes.length → b.length ≤ 4096 → Bytes b → out.length ≤ i →
    Ev (fun n => f47_pack_Get_L3 n b out sizes ((sizes.length : Nat) : Int) i) (fun r => r = left out (go b (sizes.drop i)))
  | 0, i, b, out, h, hbl, hb, ho => by
    apply Ev.succ
    simp only [f47_pack_Get_L3]
    exact Ev.neg (by simp; omega) (Ev.some (by rw [List.drop_eq_nil_of_le (by omega)]; simp [go, left]))
  | k + 1, i, b, out, h, hbl, hb, ho => by
    apply Ev.succ
    simp only [f47_pack_Get_L3]
    have hi : i < sizes.length := by omega
    rw [drop_cons hi 0, Int.toNat_natCast]
    generalize sizes.getD i 0 = s
    simp only [go]
    refine Ev.pos (by simp; omega) (Ev.guard (by omega) (Ev.ite (fun h1 => ?_) (fun h1 => Ev.ite (fun h2 => ?_) (fun h2 => Ev.ite (fun h3 => ?_) (fun h3 => ?_)))))
    · simp only [decide_eq_true_eq] at h1
      exact Ev.some (by rw [if_neg (by omega)]; rfl)
    · simp only [decide_eq_true_eq] at h1 h2
      exact Ev.some (by rw [if_neg (by omega)]; rfl)
    · simp only [decide_eq_true_eq] at h1 h2 h3
      exact Ev.some (by rw [if_neg (by omega)]; rfl)
    · simp only [decide_eq_true_eq] at h1 h2 h3
      have htl : (b.take s.toNat).length = s.toNat := by simp; omega
      refine Ev.guard (by simp [cutOk]; omega) (Ev.bind (inner b out s sizes _ _ (b.take s.toNat) (by omega) (hb.take _) (b.take s.toNat).length 0 0 (by omega)) ?_)
      rintro _ rfl
      dsimp only
      refine Ev.guard (by simp [maxLen]; omega) (Ev.guard (by simp [cutOk]; omega) ?_)
      rw [i64_id (show -9223372036854775808 ≤ (i : Int) + 1 by omega) (by omega), show (i : Int) + 1 = ((i + 1 : Nat) : Int) by omega, if_pos (by omega), List.take_length]
      refine (gets sizes hs k (i + 1) (b.drop s.toNat) (out ++ [num (b.take s.toNat)]) (by omega) (by simp; omega) (hb.drop _) (by simp; omega)).mono ?_
      rintro _ rfl
      exact left_map _ _ _

theorem refGet (b : List Int) (hbl : b.length ≤ 4096) (hb : Bytes b) (s : Int) : Ev (fun n => f62_broughamref02_Get n b s) (fun r => r = if 1 ≤ s ∧ s ≤ 8 ∧ s ≤ b.length then (num (b.take s.toNat), b.drop s.toNat, true) else (0, [], false)) := by
  simp only [f62_broughamref02_Get]
  refine Ev.ite (fun h1 => ?_) (fun h1 => Ev.ite (fun h2 => ?_) (fun h2 => Ev.ite (fun h3 => ?_) (fun h3 => ?_)))
  · simp only [decide_eq_true_eq] at h1
    exact Ev.some (by rw [if_neg (by omega)])
  · simp only [decide_eq_true_eq] at h1 h2
    exact Ev.some (by rw [if_neg (by omega)])
  · simp only [decide_eq_true_eq] at h1 h2 h3
    exact Ev.some (by rw [if_neg (by omega)])
  · simp only [decide_eq_true_eq] at h1 h2 h3
    have := refInner b s.toNat (by omega) (by omega) hb s.toNat 0 0 (by omega)
    rw [show ((s.toNat : Nat) : Int) = s by omega] at this
    refine Ev.bind this ?_
    rintro _ rfl
    dsimp only
    exact Ev.guard (by simp [cutOk]; omega) (Ev.some (by rw [if_pos (by omega), List.take_length]; rfl))

theorem refGets (sizes : List Int) (hs : sizes.length ≤ 200) : ∀ (k i : Nat) (b out : List Int), i + k = sizes.length → b.length ≤ 4096 → Bytes b → out.length ≤ i →
    Ev (fun n => f49_broughamref02_All_L3 n b sizes out i) (fun r => r = left out (go b (sizes.drop i)))
  | 0, i, b, out, h, hbl, hb, ho => by
    apply Ev.succ
    simp only [f49_broughamref02_All_L3]
    exact Ev.neg (by simp; omega) (Ev.some (by rw [List.drop_eq_nil_of_le (by omega)]; simp [go, left]))
  | k + 1, i, b, out, h, hbl, hb, ho => by
    apply Ev.succ
    simp only [f49_broughamref02_All_L3]
    have hi : i < sizes.length := by omega
    rw [drop_cons hi 0, Int.toNat_natCast]
    generalize sizes.getD i 0 = s
    simp only [go]
    refine Ev.pos (by simp; omega) (Ev.guard (by omega) (Ev.bind (refGet b hbl hb s) ?_))
    rintro _ rfl
    by_cases hc : 1 ≤ s ∧ s ≤ 8 ∧ s ≤ b.length
    · simp only [if_pos hc]
      refine Ev.neg (by simp) (Ev.guard (by simp [maxLen]; omega) ?_)
      rw [i64_id (show -9223372036854775808 ≤ (i : Int) + 1 by omega) (by omega), show (i : Int) + 1 = ((i + 1 : Nat) : Int) by omega]
      refine (refGets sizes hs k (i + 1) (b.drop s.toNat) (out ++ [num (b.take s.toNat)]) (by omega) (by simp; omega) (hb.drop _) (by simp; omega)).mono ?_
      rintro _ rfl
      exact left_map _ _ _
    · simp only [if_neg hc]
      exact Ev.pos (by simp) (Ev.some rfl)

def ans (o : Option (List Int × List Int)) : List Int × List Int × Bool := match o with
  | none => ([], [], false)
  | some p => (p.1, p.2, true)

theorem go_len : ∀ (l b : List Int) (p : List Int × List Int), go b l = some p → p.2.length ≤ b.length ∧ p.1.length = l.length
  | [], b, p, h => by simp [go] at h; subst h; simp
  | s :: r, b, p, h => by
    simp only [go] at h
    split at h
    · obtain ⟨q, h1, rfl⟩ := Option.map_eq_some_iff.1 h
      have := go_len r _ q h1
      simp at this ⊢; omega
    · cases h

theorem get_is (b sizes : List Int) (hbl : b.length ≤ 4096) (hb : Bytes b) (hs : sizes.length ≤ 200) : Ev (fun n => f47_pack_Get n b sizes) (fun r => r = ans (go b sizes)) := by
  simp only [f47_pack_Get]
  refine Ev.bind (gets sizes hs sizes.length 0 b [] (by omega) hbl hb (by simp)) ?_
  rintro _ rfl
  rw [List.drop_zero]
  cases h : go b sizes with
  | none => exact Ev.some rfl
  | some p =>
    have := go_len _ _ _ h
    exact Ev.guard (by simp [maxLen]; omega) (Ev.some rfl)
theorem all_is (b sizes : List Int) (hbl : b.length ≤ 4096) (hb : Bytes b) (hs : sizes.length ≤ 200) : Ev (fun n => f49_broughamref02_All n b sizes) (fun r => r = ans (go b sizes)) := by
  simp only [f49_broughamref02_All]
  refine Ev.bind (refGets sizes hs sizes.length 0 b [] (by omega) hbl hb (by simp)) ?_
  rintro _ rfl
  rw [List.drop_zero]
  cases h : go b sizes with
  | none => exact Ev.some rfl
  | some p => exact Ev.some rfl
theorem packAll_is (b sizes : List Int) (hbl : b.length ≤ 4096) (hb : Bytes b) (hs : sizes.length ≤ 200) : Ev (fun n => f51_pack_All n b sizes) (fun r => r = if (ans (go b sizes)).2.2 = true ∧ (ans (go b sizes)).2.1 = [] then ((ans (go b sizes)).1, true) else ([], false)) := by
  simp only [f51_pack_All]
  refine Ev.bind (get_is b sizes hbl hb hs) ?_
  rintro _ rfl
  generalize ans (go b sizes) = w
  obtain ⟨x, y, z⟩ := w
  refine Ev.ite (fun h => Ev.some (by simp at h; simp [h])) (fun h => Ev.ite (fun h2 => Ev.some (by cases y <;> simp at h2 ⊢)) (fun h2 => Ev.some (by cases y <;> simp at h h2 ⊢; exact h)))

theorem same_is (a : List Int) (ha : a.length ≤ 200) : Ev (fun n => f50_broughamlaw02_same n a a) (fun r => r = true) := by
  have loop : ∀ (k i : Nat), i + k = a.length → Ev (fun n => f50_broughamlaw02_same_L4 n a a i) (fun r => r = .inr ()) := by
    intro k
    induction k with
    | zero =>
      intro i h
      apply Ev.succ
      simp only [f50_broughamlaw02_same_L4]
      exact Ev.neg (by simp; omega) (Ev.some rfl)
    | succ k ih =>
      intro i h
      apply Ev.succ
      simp only [f50_broughamlaw02_same_L4]
      refine Ev.pos (by simp; omega) (Ev.guard (by omega) (Ev.guard (by omega) (Ev.neg (by simp) ?_)))
      rw [i64_id (show -9223372036854775808 ≤ (i : Int) + 1 by omega) (by omega), show (i : Int) + 1 = ((i + 1 : Nat) : Int) by omega]
      exact ih (i + 1) (by omega)
  simp only [f50_broughamlaw02_same]
  refine Ev.neg (by simp) (Ev.bind (loop a.length 0 (by omega)) ?_)
  rintro _ rfl
  exact Ev.some rfl

theorem alive_is : Ev (fun n => f48_broughamlaw02_alive n) (fun r => r = true) := by
  refine Ev.at 12 (fun m => ?_) rfl
  have h1 : f47_pack_Get (m + 12) [1, 2, 3] [2] = some ([258], [3], true) := by kernel_rfl
  have h2 : f46_pack_Put (m + 12) [] [(2, 258), (1, 3)] = some [1, 2, 3] := by kernel_rfl
  have h3 : f54_pack_H 258 = some (2, 258) := by kernel_rfl
  have h4 : f53_pack_B 3 = some (1, 3) := by kernel_rfl
  simp only [f48_broughamlaw02_alive, h1, h2, h3, h4, Option.bind_some, ByteArray.toList_eq, strOfNums_data]
  decide +kernel

theorem PackGets (b : List Int) (h0 : K.ok (.slice (.int .u8)) b) (sizes : List Int) (h1 : K.ok (.slice (.int .i64)) sizes) : ∃ n, f13_broughamlaw02_PackGets n b sizes = some true := by
  have hb : Bytes b := fun x hx => ok_u8 (h0.2 x hx)
  apply Ev.true
  simp only [f13_broughamlaw02_PackGets]
  refine Ev.ite (fun _ => Ev.some rfl) fun a1 => Ev.ite (fun _ => Ev.some rfl) fun a2 => ?_
  simp only [decide_eq_true_eq] at a1 a2
  refine Ev.bind (get_is b sizes (by omega) hb (by omega)) ?_
  rintro _ rfl
  refine Ev.bind (all_is b sizes (by omega) hb (by omega)) ?_
  rintro _ rfl
  have hl : (ans (go b sizes)).1.length ≤ 200 := by
    cases h : go b sizes with
    | none => simp [ans]
    | some p => have := go_len _ _ _ h; simp [ans]; omega
  refine Ev.neg (by simp) (Ev.bind (same_is _ hl) ?_)
  rintro _ rfl
  refine Ev.neg (by simp) (Ev.neg (by simp) (Ev.bind (packAll_is b sizes (by omega) hb (by omega)) ?_))
  rintro _ rfl
  generalize ans (go b sizes) = w at hl
  obtain ⟨x, y, z⟩ := w
  have fin : Ev (fun n => (f48_broughamlaw02_alive n).bind fun r => some r) (fun r => r = true) := Ev.bind alive_is (fun r hr => Ev.some hr)
  refine Ev.ite (fun h => Ev.ite (fun h2 => ?_) (fun h2 => ?_)) (fun h => ?_)
  · obtain rfl : z = true := h
    obtain rfl : y = [] := by cases y <;> simp at h2 ⊢; omega
    refine Ev.pos (by simp) (Ev.bind (by simpa using same_is x hl) ?_)
    rintro _ rfl
    exact Ev.pos rfl fin
  · obtain rfl : z = true := h
    have hy : y ≠ [] := by rintro rfl; simp at h2
    refine Ev.pos (by simp [hy]) (Ev.pos (by simp [hy]) fin)
  · have hz : z = false := by cases z <;> simp at h ⊢
    refine Ev.pos (by simp [hz]) (Ev.pos (by simp [hz]) fin)
end Go.Proofs.YtjmebloeodcoaaaF02
