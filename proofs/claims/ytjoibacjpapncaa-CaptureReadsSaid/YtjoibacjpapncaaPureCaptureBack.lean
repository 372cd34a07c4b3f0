/- CaptureBack: what is encoded is decoded as it was, what is decoded is encoded as it was: of the functions that text F34 prints. Conditions: none. -/
import Derived.Test.YtjoibacjpapncaaPureCaptureMerges
import Derived.Test.YtjoibacjpapncaaPurePack34
namespace Go.Proofs.YtjoibacjpapncaaF34
open Go Zed
set_option linter.unusedVariables false
set_option linter.unusedSimpArgs false

/-! The sum. -/
def oneOf (c d : Int) : Int := bits .or .u32 (IntKind.wrap .u32 ((IntKind.wrap .u32 c) * 2 ^ 8)) (IntKind.wrap .u32 d)
def sumF : List Int → Int → Int → Int × Int
  | [], x, y => (x, y)
  | [c], x, y => (Int.tmod (IntKind.wrap .u32 (x + (IntKind.wrap .u32 ((IntKind.wrap .u32 c) * 2 ^ 8)))) 65535, Int.tmod (IntKind.wrap .u32 (y + (Int.tmod (IntKind.wrap .u32 (x + (IntKind.wrap .u32 ((IntKind.wrap .u32 c) * 2 ^ 8)))) 65535))) 65535)
  | c :: d :: l, x, y => sumF l (Int.tmod (IntKind.wrap .u32 (x + oneOf c d)) 65535) (Int.tmod (IntKind.wrap .u32 (y + (Int.tmod (IntKind.wrap .u32 (x + oneOf c d)) 65535))) 65535)
def sumOf (b : List Int) : Int := bits .or .u32 (IntKind.wrap .u32 ((sumF b 0 0).2 * 2 ^ 16)) (sumF b 0 0).1
theorem sumOf_in (b : List Int) : 0 ≤ sumOf b ∧ sumOf b < 4294967296 := by
  unfold sumOf
  show 0 ≤ IntKind.u32.wrap _ ∧ IntKind.u32.wrap _ < _
  rw [w_u32]; omega
theorem sumLoop (b : List Int) (hb : b.length ≤ 1000000) : ∀ (f i : Nat), b.length ≤ i + f → ∀ (x y : Int), Ev (fun n => f25_capture_Sum_L3 n b x y (i : Int)) (fun r => r = sumF (b.drop i) x y)
  | f, i, hf, x, y => by
    apply Ev.succ
    simp only [f25_capture_Sum_L3]
    refine Ev.ite (fun a => ?_) (fun a => ?_)
    · have hi : i < b.length := by simp only [decide_eq_true_eq] at a; omega
      obtain ⟨f, rfl⟩ : ∃ g, f = g + 1 := ⟨f - 1, by omega⟩
      have e1 : IntKind.wrap .i64 ((i : Int) + 1) = ((i + 1 : Nat) : Int) := nx (by omega)
      have e2 : IntKind.wrap .i64 ((i : Int) + 2) = ((i + 2 : Nat) : Int) := by rw [i64_id] <;> omega
      rw [drop_cons hi 0, e1, e2]
      refine Ev.guard (by omega) (Ev.ite (fun c => ?_) (fun c => ?_))
      · have hi2 : i + 1 < b.length := by simp only [decide_eq_true_eq] at c; omega
        rw [drop_cons hi2 0]
        refine Ev.guard (by omega) ?_
        exact sumLoop b hb f (i + 2) (by omega) _ _
      · have hi2 : b.length ≤ i + 1 := by simp only [decide_eq_true_eq] at c; omega
        rw [List.drop_eq_nil_of_le hi2]
        have := sumLoop b hb f (i + 2) (by omega) (Int.tmod (IntKind.wrap .u32 (x + (IntKind.wrap .u32 ((IntKind.wrap .u32 (b.getD i 0)) * 2 ^ 8)))) 65535) (Int.tmod (IntKind.wrap .u32 (y + (Int.tmod (IntKind.wrap .u32 (x + (IntKind.wrap .u32 ((IntKind.wrap .u32 (b.getD i 0)) * 2 ^ 8)))) 65535))) 65535)
        rw [List.drop_eq_nil_of_le (show b.length ≤ i + 2 by omega)] at this
        exact this
    · have hi : b.length ≤ i := by simp only [decide_eq_true_eq] at a; omega
      rw [List.drop_eq_nil_of_le hi]
      exact Ev.some rfl
theorem sum_is (b : List Int) (hb : b.length ≤ 1000000) : Ev (fun n => f25_capture_Sum n b) (fun r => r = sumOf b) := by
  unfold f25_capture_Sum
  refine Ev.bind (sumLoop b hb b.length 0 (by omega) 0 0) ?_
  rintro _ rfl
  exact Ev.some rfl

/-! Which captures may be. -/
def okR (last : Int) (r : R) : Bool := decide (last ≤ r.1) && decide (r.1 < 2147483648) && decide (0 ≤ r.2.1) && decide (r.2.1 ≤ 1) && decide (0 ≤ r.2.2.1) && decide (r.2.2.1 < 4) && decide (r.2.2.2.length ≤ 2048)
theorem okR_iff (last : Int) (r : R) : okR last r = true ↔ last ≤ r.1 ∧ r.1 < 2147483648 ∧ 0 ≤ r.2.1 ∧ r.2.1 ≤ 1 ∧ 0 ≤ r.2.2.1 ∧ r.2.2.1 < 4 ∧ r.2.2.2.length ≤ 2048 := by
  unfold okR; simp only [Bool.and_eq_true, decide_eq_true_eq, and_assoc]
def rgt : Int → List R → Bool
  | _, [] => true
  | last, r :: l => okR last r && rgt r.1 l
def right (l : List R) : Bool := decide (l.length ≤ 1024) && rgt 0 l
theorem rightLoop (l : List R) (hl : l.length ≤ 1024) : ∀ (m i : Nat), i + m = l.length → ∀ (last : Int), Ev (fun n => f23_capture_Right_L5 n last l ((l.length : Nat) : Int) (i : Int)) (fun r => r = if rgt last (l.drop i) = true then .inr () else .inl false)
  | 0, i, hi, last => by
    apply Ev.succ
    simp only [f23_capture_Right_L5]
    rw [List.drop_eq_nil_of_le (by omega)]
    exact Ev.neg (by simp; omega) (Ev.some rfl)
  | m + 1, i, hi, last => by
    apply Ev.succ
    simp only [f23_capture_Right_L5]
    rw [drop_cons (show i < l.length by omega) dR, Int.toNat_natCast]
    have h := rightLoop l hl m (i + 1) (by omega) (l.getD i dR).1
    have hk := okR_iff last (l.getD i dR)
    rw [nx (by omega)]
    refine Ev.pos (by simp; omega) (Ev.guard (by omega) ?_)
    have bad : okR last (l.getD i dR) ≠ true → (.inl false : Bool ⊕ Unit) = if rgt last (l.getD i dR :: l.drop (i + 1)) = true then .inr () else .inl false := by
      intro hb
      rw [rgt, if_neg (by rw [Bool.and_eq_true]; exact fun h => hb h.1)]
    have cv : ∀ {p : Prop} [Decidable p], (decide p) = true → p := fun h => of_decide_eq_true h
    have nv : ∀ {p : Prop} [Decidable p], ¬ (decide p) = true → ¬ p := fun h h2 => h (decide_eq_true h2)
    refine Ev.ite (fun a => Ev.some (bad ?_)) fun a1 => Ev.ite (fun a => Ev.some (bad ?_)) fun a2 => Ev.ite (fun a => Ev.some (bad ?_)) fun a3 => Ev.ite (fun a => Ev.some (bad ?_)) fun a4 => Ev.ite (fun a => Ev.some (bad ?_)) fun a5 => Ev.ite (fun a => Ev.some (bad ?_)) fun a6 => Ev.ite (fun a => Ev.some (bad ?_)) fun a7 => ?_
    · have := cv a
      rw [Ne, hk]
      change (l.getD i dR).1 < last at this; omega
    · have := cv a
      rw [Ne, hk]
      change (l.getD i dR).1 ≥ 2147483648 at this; omega
    · have := cv a
      rw [Ne, hk]
      change (l.getD i dR).2.1 < 0 at this; omega
    · have := cv a
      rw [Ne, hk]
      change (l.getD i dR).2.1 > 1 at this; omega
    · have := cv a
      rw [Ne, hk]
      change (l.getD i dR).2.2.1 < 0 at this; omega
    · have := cv a
      rw [Ne, hk]
      change (l.getD i dR).2.2.1 ≥ 4 at this; omega
    · have := cv a
      rw [Ne, hk]
      change (((l.getD i dR).2.2.2.length : Nat) : Int) > 2048 at this; omega
    · have b1 := nv a1; have b2 := nv a2; have b3 := nv a3; have b4 := nv a4; have b5 := nv a5; have b6 := nv a6; have b7 := nv a7
      change ¬ (l.getD i dR).1 < last at b1
      change ¬ (l.getD i dR).1 ≥ 2147483648 at b2
      change ¬ (l.getD i dR).2.1 < 0 at b3
      change ¬ (l.getD i dR).2.1 > 1 at b4
      change ¬ (l.getD i dR).2.2.1 < 0 at b5
      change ¬ (l.getD i dR).2.2.1 ≥ 4 at b6
      change ¬ (((l.getD i dR).2.2.2.length : Nat) : Int) > 2048 at b7
      have hok : okR last (l.getD i dR) = true := hk.2 (by omega)
      rw [rgt, hok, Bool.true_and]
      exact h
theorem right_is (l : List R) : Ev (fun n => f23_capture_Right n l) (fun r => r = right l) := by
  unfold f23_capture_Right right
  refine Ev.ite (fun a => Ev.some ?_) fun a => ?_
  · simp only [decide_eq_true_eq] at a
    rw [decide_eq_false (by omega), Bool.false_and]
  · simp only [decide_eq_true_eq] at a
    rw [decide_eq_true (by omega), Bool.true_and]
    refine Ev.bind (rightLoop l (by omega) l.length 0 (by omega) 0) ?_
    rw [List.drop_zero]
    rintro _ rfl
    by_cases h : rgt 0 l = true
    · simp only [h, if_true]
      exact Ev.some rfl
    · simp only [h]
      exact Ev.some rfl

/-! Encoded. -/
theorem f2 (v : Int) : fieldB (2, v) = be 2 v := rfl
def recB (last : Int) (r : R) : List Int := be 4 (r.1 - last) ++ (be 1 (r.2.1 * 128 + r.2.2.1) ++ (be 2 (r.2.2.2.length : Int) ++ r.2.2.2))
def encs : Int → List R → List Int
  | _, [] => []
  | last, r :: l => recB last r ++ encs r.1 l
def headB (k : Nat) : List Int := be 4 1112690517 ++ be 2 (k : Int)
def bodyB (l : List R) : List Int := headB l.length ++ encs 0 l
def encOf (l : List R) : List Int := bodyB l ++ be 4 (sumOf (bodyB l))
theorem recB_len (last : Int) (r : R) : (recB last r).length = 7 + r.2.2.2.length := by unfold recB; simp [be_len]; omega
theorem encs_len : ∀ (last : Int) (l : List R), (encs last l).length = tot l + 7 * l.length
  | _, [] => rfl
  | last, r :: l => by simp only [encs, List.length_append, recB_len, encs_len r.1 l, tot, List.length_cons]; omega
theorem headB_len (k : Nat) : (headB k).length = 6 := by unfold headB; simp [be_len]
theorem hp_is {h p : Int} (h1 : 0 ≤ h ∧ h ≤ 1) (h2 : 0 ≤ p ∧ p < 4) : IntKind.wrap .u8 (bits .or .i64 (IntKind.wrap .i64 (h * 2 ^ 7)) p) = h * 128 + p := by
  have e1 : h = 0 ∨ h = 1 := by omega
  have e2 : p = 0 ∨ p = 1 ∨ p = 2 ∨ p = 3 := by omega
  rcases e1 with rfl | rfl <;> rcases e2 with rfl | rfl | rfl | rfl <;> decide
theorem encLoop (l : List R) (hl : l.length ≤ 1024) : ∀ (m i : Nat), i + m = l.length → ∀ (b : List Int) (last : Int), 0 ≤ last → rgt last (l.drop i) = true → b.length + (encs last (l.drop i)).length ≤ 90000 →
    Ev (fun n => f20_capture_Encode_L6 n b last l ((l.length : Nat) : Int) (i : Int)) (fun r => r = b ++ encs last (l.drop i))
  | 0, i, hi, b, last, h0, hr, hb => by
    apply Ev.succ
    simp only [f20_capture_Encode_L6]
    rw [List.drop_eq_nil_of_le (by omega), encs, List.append_nil]
    exact Ev.neg (by simp; omega) (Ev.some rfl)
  | m + 1, i, hi, b, last, h0, hr, hb => by
    apply Ev.succ
    simp only [f20_capture_Encode_L6]
    rw [drop_cons (show i < l.length by omega) dR] at hr hb ⊢
    rw [Int.toNat_natCast, nx (by omega)]
    rw [rgt, Bool.and_eq_true, okR_iff] at hr
    rw [encs, List.length_append, recB_len] at hb
    rw [encs]
    obtain ⟨⟨r1, r2, r3, r4, r5, r6, r7⟩, hr2⟩ := hr
    refine Ev.pos (by simp; omega) (Ev.guard (by omega) ?_)
    change Ev (fun n => (f79_pack_W (IntKind.wrap .u32 (IntKind.wrap .i64 ((l.getD i dR).1 - last)))).bind _) _
    refine Ev.bind (Ev.of (r := (4, (l.getD i dR).1 - last)) (by unfold f79_pack_W; rw [i64_id (by omega) (by omega), u32_id (by omega) (by omega), u64_id (by omega) (by omega)]) rfl) ?_
    rintro _ rfl
    refine Ev.bind (Ev.of (r := (1, (l.getD i dR).2.1 * 128 + (l.getD i dR).2.2.1)) (by
      show f81_pack_B (IntKind.wrap .u8 (bits .or .i64 (IntKind.wrap .i64 ((l.getD i dR).2.1 * 2 ^ 7)) (l.getD i dR).2.2.1)) = _
      unfold f81_pack_B; rw [hp_is ⟨r3, r4⟩ ⟨r5, r6⟩, u64_id (by omega) (by omega)]) rfl) ?_
    rintro _ rfl
    refine Ev.bind (Ev.of (r := (2, ((l.getD i dR).2.2.2.length : Int))) (by
      show f80_pack_H (IntKind.wrap .u16 (((l.getD i dR).2.2.2.length : Nat) : Int)) = _
      unfold f80_pack_H; rw [u16_id (by omega) (by omega), u64_id (by omega) (by omega)]) rfl) ?_
    rintro _ rfl
    refine Ev.bind (put_is b _ (by omega) (by simp) ?_) ?_
    · intro f hf
      simp only [List.mem_cons, List.not_mem_nil, or_false] at hf
      rcases hf with rfl | rfl | rfl <;> dsimp only <;> omega
    rintro _ rfl
    have e : (b ++ enc [(4, (l.getD i dR).1 - last), (1, (l.getD i dR).2.1 * 128 + (l.getD i dR).2.2.1), (2, ((l.getD i dR).2.2.2.length : Int))]) ++ (l.getD i dR).2.2.2 = b ++ recB last (l.getD i dR) := by
      rw [enc_cons, enc_cons, enc_cons, f4, f1, f2]
      simp [enc, recB]
    have e2 : (b ++ enc [(4, (l.getD i dR).1 - last), (1, (l.getD i dR).2.1 * 128 + (l.getD i dR).2.2.1), (2, ((l.getD i dR).2.2.2.length : Int))]).length + (l.getD i dR).2.2.2.length = b.length + 7 + (l.getD i dR).2.2.2.length := by
      have := congrArg List.length e
      simp only [List.length_append, recB_len] at this ⊢
      omega
    refine Ev.guard ?_ ?_
    · show _ + (l.getD i dR).2.2.2.length ≤ maxLen ∧ (_ + (l.getD i dR).2.2.2.length) * 1 ≤ 140737488355328
      rw [e2]
      simp only [maxLen]; omega
    · show Ev (fun n => f20_capture_Encode_L6 n (_ ++ (l.getD i dR).2.2.2) (l.getD i dR).1 l ((l.length : Nat) : Int) ((i + 1 : Nat) : Int)) _
      rw [e, ← List.append_assoc]
      exact encLoop l hl m (i + 1) (by omega) (b ++ recB last (l.getD i dR)) _ (by omega) hr2 (by rw [List.length_append, recB_len]; omega)
theorem enc_is (l : List R) (ht : tot l ≤ 30000) : Ev (fun n => f20_capture_Encode n l) (fun r => r = if right l = true then (encOf l, true) else ([], false)) := by
  unfold f20_capture_Encode
  refine Ev.bind (right_is l) ?_
  rintro _ rfl
  refine Ev.ite (fun a => Ev.some ?_) fun a => ?_
  · rw [if_neg (by intro h; rw [h] at a; cases a)]
  have hr : right l = true := by cases h : right l with | true => rfl | false => exact absurd (by rw [h]; rfl) a
  rw [if_pos hr]
  unfold right at hr
  rw [Bool.and_eq_true, decide_eq_true_eq] at hr
  have hel := encs_len 0 l
  refine Ev.bind (Ev.of (r := (4, 1112690517)) (by decide) rfl) ?_
  rintro _ rfl
  refine Ev.bind (Ev.of (r := (2, (l.length : Int))) (by unfold f80_pack_H; rw [u16_id (by omega) (by omega), u64_id (by omega) (by omega)]) rfl) ?_
  rintro _ rfl
  refine Ev.bind (put_is [] _ (by simp) (by simp) ?_) ?_
  · intro f hf
    simp only [List.mem_cons, List.not_mem_nil, or_false] at hf
    rcases hf with rfl | rfl <;> dsimp only <;> omega
  rintro _ rfl
  have e : [] ++ enc [(4, 1112690517), (2, (l.length : Int))] = headB l.length := by
    rw [enc_cons, enc_cons, f4, f2]; simp [enc, headB]
  rw [e]
  have hbl : (bodyB l).length = 6 + (tot l + 7 * l.length) := by unfold bodyB; rw [List.length_append, headB_len, hel]
  have := encLoop l hr.1 l.length 0 (by omega) (headB l.length) 0 (by omega) (by rw [List.drop_zero]; exact hr.2) (by rw [List.drop_zero, headB_len]; omega)
  rw [List.drop_zero] at this
  refine Ev.bind this ?_
  intro r hb
  have hb2 : r = bodyB l := hb
  rw [hb2]
  refine Ev.bind (sum_is (bodyB l) (by omega)) ?_
  rintro _ rfl
  have hs := sumOf_in (bodyB l)
  refine Ev.bind (Ev.of (r := (4, sumOf (bodyB l))) (by unfold f79_pack_W; rw [u64_id (by omega) (by omega)]) rfl) ?_
  rintro _ rfl
  refine Ev.bind (put_is (bodyB l) _ (by omega) (by simp) ?_) ?_
  · intro f hf
    simp only [List.mem_cons, List.not_mem_nil, or_false] at hf
    rcases hf with rfl; dsimp only; omega
  rintro _ rfl
  refine Ev.some ?_
  rw [enc_cons, f4]
  simp [enc, encOf]

/-! Decoded. -/
def decs : Nat → Int → List Int → Option (List Int × List R)
  | 0, _, rest => some (rest, [])
  | k + 1, tick, rest => match go rest [4, 1, 2] with
    | some ([a, h, c], more) => if c > (more.length : Int) then none else if a ≥ 2147483648 then none else
        (decs k (tick + a) (more.drop c.toNat)).map fun p => (p.1, (tick + a, h / 128, h % 128, more.take c.toNat) :: p.2)
    | _ => none
def decOf (b : List Int) : Option (List R) :=
  if b.length < 10 then none else
  if num (b.drop (b.length - 4)) ≠ sumOf (b.take (b.length - 4)) then none else
  match go (b.take (b.length - 4)) [4, 2] with
  | some ([m, k], rest) => if m ≠ 1112690517 then none else if k > 1024 then none else
      match decs k.toNat 0 rest with
      | some ([], l) => if right l = true then some l else none
      | _ => none
  | _ => none
theorem q1 : (256 : Int) ^ 2 = 65536 := by decide
/-- What three numbers are. -/
theorem go3 {b : List Int} (hb : Bytes b) : (go b [4, 1, 2] = none ∧ b.length < 7) ∨ (∃ a h c, go b [4, 1, 2] = some ([a, h, c], b.drop 7) ∧ 7 ≤ b.length ∧ (0 ≤ a ∧ a < 4294967296) ∧ (0 ≤ h ∧ h < 256) ∧ (0 ≤ c ∧ c < 65536) ∧ b = be 4 a ++ (be 1 h ++ (be 2 c ++ b.drop 7))) := by
  rcases Nat.lt_or_ge b.length 7 with h | h
  · refine .inl ⟨?_, h⟩
    simp only [go]
    by_cases h1 : (4 : Int) ≤ b.length
    · rw [if_pos ⟨by decide, by decide, h1⟩]
      by_cases h2 : (1 : Int) ≤ ((b.drop (Int.toNat 4)).length : Nat)
      · rw [if_pos ⟨by decide, by decide, h2⟩]
        rw [if_neg]
        · rfl
        · simp only [List.length_drop, show Int.toNat 4 = 4 from rfl, show Int.toNat 1 = 1 from rfl] at h2 ⊢
          omega
      · rw [if_neg (fun h3 => h2 h3.2.2)]; rfl
    · rw [if_neg (fun h3 => h1 h3.2.2)]
  · refine .inr ⟨num (b.take 4), num ((b.drop 4).take 1), num ((b.drop 5).take 2), ?_, h, ?_, ?_, ?_, ?_⟩
    · simp only [go]
      rw [if_pos ⟨by decide, by decide, by omega⟩]
      rw [if_pos ⟨by decide, by decide, by simp only [List.length_drop, show Int.toNat 4 = 4 from rfl]; omega⟩]
      rw [if_pos ⟨by decide, by decide, by simp only [List.length_drop, show Int.toNat 4 = 4 from rfl, show Int.toNat 1 = 1 from rfl]; omega⟩]
      simp only [show Int.toNat 4 = 4 from rfl, show Int.toNat 1 = 1 from rfl, show Int.toNat 2 = 2 from rfl, List.drop_drop, Option.map_some]
    · have := num_take hb (s := 4) (by omega) (by omega); rwa [p4] at this
    · have := num_take (hb.drop 4) (s := 1) (by omega) (by simp; omega); rwa [p1] at this
    · have := num_take (hb.drop 5) (s := 2) (by omega) (by simp; omega); rwa [q1] at this
    · rw [be_take hb (by omega) (by omega), be_take (hb.drop 4) (by omega) (by simp; omega), be_take (hb.drop 5) (by omega) (by simp; omega)]
      have e1 : (b.drop 5).take 2 ++ b.drop 7 = b.drop 5 := by
        have := List.take_append_drop 2 (b.drop 5)
        rwa [List.drop_drop] at this
      have e2 : (b.drop 4).take 1 ++ b.drop 5 = b.drop 4 := by
        have := List.take_append_drop 1 (b.drop 4)
        rwa [List.drop_drop] at this
      rw [e1, e2, List.take_append_drop]
set_option maxRecDepth 20000 in
theorem decLoop (K : Nat) (hK : K ≤ 1024) (k : Nat) : ∀ (t : Nat), t + k = K → ∀ (tick : Int) (rest : List Int) (out : List R), Bytes rest → rest.length ≤ 90000 → out.length = t → 0 ≤ tick → tick ≤ (t : Int) * 2147483648 →
    Ev (fun n => f28_capture_Decode_L13 n rest out tick (K : Int) (t : Int)) (fun r => r = match decs k tick rest with | none => .inl ([], false) | some p => .inr (p.1, out ++ p.2)) := by
  induction k with
  | zero =>
    intro t ht tick rest out hb hl ho h0 h1
    apply Ev.succ
    simp only [f28_capture_Decode_L13]
    rw [decs]
    refine Ev.neg (by simp; omega) (Ev.some ?_)
    dsimp only
    rw [List.append_nil]
  | succ k ih =>
    intro t ht tick rest out hb hl ho h0 h1
    apply Ev.succ
    simp only [f28_capture_Decode_L13]
    refine Ev.pos (by simp; omega) ?_
    refine Ev.bind (get_is rest [4, 1, 2] (by omega) hb (by simp)) ?_
    rintro _ rfl
    rw [decs]
    rcases go3 hb with ⟨g, g2⟩ | ⟨a, h, c, g, g2, ga, gh, gc, g3⟩
    · rw [g]
      exact Ev.pos rfl (Ev.some rfl)
    · rw [g]
      have hml : (rest.drop 7).length = rest.length - 7 := by simp
      generalize rest.drop 7 = more at hml g3 ⊢
      have hbm : Bytes more := by rw [g3] at hb; exact hb.right.right.right
      unfold ans
      dsimp only
      have ec : IntKind.wrap .i64 c = c := i64_id (by omega) (by omega)
      have ea : IntKind.wrap .i64 a = a := i64_id (by omega) (by omega)
      have x0 : ([a, h, c] : List Int).getD 0 0 = a := rfl
      have x1 : ([a, h, c] : List Int).getD 1 0 = h := rfl
      have x2 : ([a, h, c] : List Int).getD 2 0 = c := rfl
      rw [x0, x1, x2]
      refine Ev.neg (by simp) (Ev.guard ⟨by decide, by simp⟩ (Ev.ite (fun d => ?_) (fun d => Ev.guard ⟨by decide, by simp⟩ (Ev.ite (fun d2 => ?_) (fun d2 => ?_)))))
      · rw [ec, decide_eq_true_eq] at d
        rw [if_pos d]
        exact Ev.some rfl
      · rw [ec, decide_eq_true_eq] at d
        rw [decide_eq_true_eq] at d2
        rw [if_neg d, if_pos d2]
        exact Ev.some rfl
      · rw [ec, decide_eq_true_eq] at d
        rw [decide_eq_true_eq] at d2
        rw [if_neg d, if_neg d2]
        have et : IntKind.wrap .i64 (tick + a) = tick + a := i64_id (by omega) (by omega)
        have eh : IntKind.wrap .i64 (Int.fdiv h (2 ^ 7)) = h / 128 := by
          rw [show (2 : Int) ^ 7 = 128 by decide, fdiv_e (by omega), i64_id (by omega) (by omega)]
        have ep : IntKind.wrap .i64 (bits .and .u64 h 127) = h % 128 := by
          have := and_u64 (x := h) (by omega) 7 (by omega)
          rw [show (2 : Int) ^ 7 - 1 = 127 by decide, show (2 : Int) ^ 7 = 128 by decide] at this
          rw [this, i64_id (by omega) (by omega)]
        rw [ec, ea, et, eh, ep]
        have es : ((more.take more.length).drop c.toNat) = more.drop c.toNat := by rw [List.take_length]
        refine Ev.guard ⟨by decide, by simp⟩ (Ev.guard ⟨by decide, by simp⟩ (Ev.guard ⟨by decide, by simp⟩ (Ev.guard ⟨by decide, by simp⟩ (Ev.guard ?_ (Ev.guard ?_ (Ev.guard ?_ (Ev.guard ?_ ?_)))))))
        · simp [cutOk]; omega
        · simp only [List.length_take, maxLen]; omega
        · simp only [List.length_cons, List.length_nil, maxLen]; omega
        · simp [cutOk]; omega
        · rw [es, show IntKind.wrap .u64 ((t : Int) + 1) = ((t + 1 : Nat) : Int) by rw [u64_id] <;> omega]
          have := ih (t + 1) (by omega) (tick + a) (more.drop c.toNat) (out ++ [(tick + a, h / 128, h % 128, more.take c.toNat)]) (hbm.drop _) (by simp only [List.length_drop]; omega) (by simp; omega) (by omega) (by omega)
          refine this.mono ?_
          rintro _ rfl
          cases decs k (tick + a) (more.drop c.toNat) with
          | none => rfl
          | some p => simp
theorem go2 {b : List Int} (hb : Bytes b) (h : 6 ≤ b.length) : ∃ m k, go b [4, 2] = some ([m, k], b.drop 6) ∧ (0 ≤ k ∧ k < 65536) ∧ b = be 4 m ++ (be 2 k ++ b.drop 6) := by
  refine ⟨num (b.take 4), num ((b.drop 4).take 2), ?_, ?_, ?_⟩
  · simp only [go]
    rw [if_pos ⟨by decide, by decide, by omega⟩]
    rw [if_pos ⟨by decide, by decide, by simp only [List.length_drop, show Int.toNat 4 = 4 from rfl]; omega⟩]
    simp only [show Int.toNat 4 = 4 from rfl, show Int.toNat 2 = 2 from rfl, List.drop_drop, Option.map_some]
  · have := num_take (hb.drop 4) (s := 2) (by omega) (by simp; omega); rwa [q1] at this
  · rw [be_take hb (by omega) (by omega), be_take (hb.drop 4) (by omega) (by simp; omega)]
    have e1 : (b.drop 4).take 2 ++ b.drop 6 = b.drop 4 := by
      have := List.take_append_drop 2 (b.drop 4)
      rwa [List.drop_drop] at this
    rw [e1, List.take_append_drop]
theorem dec_is (b : List Int) (hb : Bytes b) (hl : b.length ≤ 90000) : Ev (fun n => f28_capture_Decode n b) (fun r => r = match decOf b with | none => ([], false) | some l => (l, true)) := by
  unfold f28_capture_Decode decOf
  refine Ev.ite (fun a => Ev.some ?_) fun a => ?_
  · simp only [decide_eq_true_eq] at a
    rw [if_pos (by omega)]
  simp only [decide_eq_true_eq] at a
  rw [if_neg (by omega)]
  have e4 : IntKind.wrap .i64 (((b.length : Nat) : Int) - 4) = ((b.length - 4 : Nat) : Int) := by rw [i64_id] <;> omega
  rw [e4, Int.toNat_natCast, List.take_length]
  refine Ev.guard (by simp [cutOk]) (Ev.guard (by simp [cutOk]) ?_)
  have hel : (b.drop (b.length - 4)).length = 4 := by simp; omega
  have hbe : Bytes (b.drop (b.length - 4)) := hb.drop _
  have hbb : Bytes (b.take (b.length - 4)) := hb.take _
  have hbl : (b.take (b.length - 4)).length = b.length - 4 := by simp
  generalize b.drop (b.length - 4) = en at hel hbe
  generalize b.take (b.length - 4) = body at hbl hbb
  refine Ev.bind (packAll_is en [4] (by omega) hbe (by simp)) ?_
  have hg : go en [4] = some ([num en], []) := by
    simp only [go]
    rw [if_pos ⟨by decide, by decide, by omega⟩]
    simp only [show Int.toNat 4 = 4 from rfl, Option.map_some]
    rw [List.take_of_length_le (by omega), List.drop_eq_nil_of_le (by omega)]
  rw [hg]
  rintro _ rfl
  have hn := num_take hbe (s := 4) (by omega) (by omega)
  rw [p4, List.take_of_length_le (by omega)] at hn
  refine Ev.neg (by simp [ans]) (Ev.guard ⟨by decide, by simp [ans]⟩ ?_)
  refine Ev.bind (sum_is body (by omega)) ?_
  rintro _ rfl
  have x0 : ((if (ans (some ([num en], []))).2.2 = true ∧ (ans (some ([num en], []))).2.1 = [] then ((ans (some ([num en], []))).1, true) else ([], false)) : List Int × Bool).1.getD 0 0 = num en := rfl
  rw [x0, u32_id hn.1 hn.2]
  refine Ev.ite (fun c => Ev.some ?_) fun c => ?_
  · rw [bne_iff_ne] at c
    rw [if_pos c]
  rw [bne_iff_ne] at c
  rw [if_neg c]
  refine Ev.bind (get_is body [4, 2] (by omega) hbb (by simp)) ?_
  rintro _ rfl
  obtain ⟨m, k, g, gk, g2⟩ := go2 hbb (by omega)
  rw [g]
  have hrl : (body.drop 6).length = body.length - 6 := by simp
  have hrb : Bytes (body.drop 6) := hbb.drop 6
  generalize body.drop 6 = rest at hrl hrb
  unfold ans
  dsimp only
  have y0 : ([m, k] : List Int).getD 0 0 = m := rfl
  have y1 : ([m, k] : List Int).getD 1 0 = k := rfl
  rw [y0, y1]
  refine Ev.neg (by simp) (Ev.guard ⟨by decide, by simp⟩ (Ev.ite (fun d => Ev.some ?_) fun d => Ev.guard ⟨by decide, by simp⟩ (Ev.ite (fun d2 => Ev.some ?_) fun d2 => Ev.guard ⟨by decide, by simp⟩ ?_)))
  · rw [bne_iff_ne] at d
    rw [if_pos d]
  · rw [bne_iff_ne] at d
    rw [decide_eq_true_eq] at d2
    rw [if_neg d, if_pos d2]
  rw [bne_iff_ne] at d
  rw [decide_eq_true_eq] at d2
  rw [if_neg d, if_neg d2]
  obtain ⟨k, rfl⟩ : ∃ j : Nat, k = (j : Int) := ⟨k.toNat, by omega⟩
  rw [Int.toNat_natCast]
  refine Ev.bind (decLoop k (by omega) k 0 (by omega) 0 rest [] hrb (by omega) rfl (by omega) (by omega)) ?_
  rintro _ rfl
  cases hd : decs k 0 rest with
  | none => exact Ev.some rfl
  | some p =>
    obtain ⟨q, l⟩ := p
    dsimp only
    cases q with
    | cons x q =>
      exact Ev.pos (by simp) (Ev.some rfl)
    | nil =>
      refine Ev.neg (by simp) ?_
      refine Ev.bind (right_is _) ?_
      rintro _ rfl
      rw [List.nil_append]
      by_cases hr : right l = true
      · rw [hr]
        refine Ev.neg (by simp) (Ev.some ?_)
        show (l, true) = match (if right l = true then some l else none) with | none => ([], false) | some l => (l, true)
        rw [if_pos hr]
      · have hr2 : right l = false := by simpa using hr
        rw [hr2]
        refine Ev.pos rfl (Ev.some ?_)
        show ([], false) = match (if right l = true then some l else none) with | none => ([], false) | some l => (l, true)
        rw [if_neg hr]

/-! There and back. -/
theorem decs_encs : ∀ (l : List R) (last : Int), 0 ≤ last → rgt last l = true → decs l.length last (encs last l) = some ([], l)
  | [], last, h0, h => rfl
  | r :: l, last, h0, h => by
    rw [rgt, Bool.and_eq_true, okR_iff] at h
    obtain ⟨⟨r1, r2, r3, r4, r5, r6, r7⟩, h2⟩ := h
    have g1 := go_be 4 (r.1 - last) (be 1 (r.2.1 * 128 + r.2.2.1) ++ (be 2 (r.2.2.2.length : Int) ++ (r.2.2.2 ++ encs r.1 l))) [1, 2] (by omega) (by rw [p4]; omega)
    have g2 := go_be 1 (r.2.1 * 128 + r.2.2.1) (be 2 (r.2.2.2.length : Int) ++ (r.2.2.2 ++ encs r.1 l)) [2] (by omega) (by rw [p1]; omega)
    have g3 := go_be 2 (r.2.2.2.length : Int) (r.2.2.2 ++ encs r.1 l) [] (by omega) (by rw [q1]; omega)
    rw [show ((4 : Nat) : Int) = 4 from rfl] at g1
    rw [show ((1 : Nat) : Int) = 1 from rfl] at g2
    rw [show ((2 : Nat) : Int) = 2 from rfl] at g3
    have hg : go (encs last (r :: l)) [4, 1, 2] = some ([r.1 - last, r.2.1 * 128 + r.2.2.1, (r.2.2.2.length : Int)], r.2.2.2 ++ encs r.1 l) := by
      rw [encs, recB]
      simp only [List.append_assoc]
      rw [g1, g2, g3]
      rfl
    rw [List.length_cons, decs, hg]
    dsimp only
    rw [if_neg (by simp; omega), if_neg (by omega), Int.toNat_natCast, List.drop_left, List.take_left, show last + (r.1 - last) = r.1 by omega, decs_encs l r.1 (by omega) h2]
    rw [show (r.2.1 * 128 + r.2.2.1) / 128 = r.2.1 by omega, show (r.2.1 * 128 + r.2.2.1) % 128 = r.2.2.1 by omega]
    rfl
theorem dec_enc (l : List R) (h : right l = true) : decOf (encOf l) = some l := by
  have hr := h
  unfold right at hr
  rw [Bool.and_eq_true, decide_eq_true_eq] at hr
  have hs := sumOf_in (bodyB l)
  have hbl : (bodyB l).length = 6 + (tot l + 7 * l.length) := by unfold bodyB; rw [List.length_append, headB_len, encs_len]
  have hel : (encOf l).length = (bodyB l).length + 4 := by unfold encOf; rw [List.length_append, be_len]
  have h1 : (encOf l).take ((encOf l).length - 4) = bodyB l := by
    rw [hel]; unfold encOf; rw [Nat.add_sub_cancel, List.take_left]
  have h2 : (encOf l).drop ((encOf l).length - 4) = be 4 (sumOf (bodyB l)) := by
    rw [hel]; unfold encOf; rw [Nat.add_sub_cancel, List.drop_left]
  unfold decOf
  rw [if_neg (by omega), h1, h2, num_be 4 _ (by omega) (by rw [p4]; exact hs), if_neg (by simp)]
  have g1 := go_be 4 1112690517 (be 2 (l.length : Int) ++ encs 0 l) [2] (by omega) (by rw [p4]; omega)
  have g2 := go_be 2 (l.length : Int) (encs 0 l) [] (by omega) (by rw [q1]; omega)
  rw [show ((4 : Nat) : Int) = 4 from rfl] at g1
  rw [show ((2 : Nat) : Int) = 2 from rfl] at g2
  have hg : go (bodyB l) [4, 2] = some ([1112690517, (l.length : Int)], encs 0 l) := by
    unfold bodyB headB
    rw [List.append_assoc, g1, g2]
    rfl
  rw [hg]
  dsimp only
  rw [if_neg (by simp), if_neg (by omega), Int.toNat_natCast, decs_encs l 0 (by omega) hr.2]
  dsimp only
  rw [if_pos h]
theorem be_inj2 {s : Nat} {v w : Int} (h : v = w) : be s v = be s w := by rw [h]
theorem encs_decs : ∀ (k : Nat) (tick : Int) (rest q : List Int) (l : List R), Bytes rest → decs k tick rest = some (q, l) → rest = encs tick l ++ q ∧ l.length = k ∧ tot l ≤ rest.length
  | 0, tick, rest, q, l, hb, h => by
    rw [decs] at h
    injection h with h
    injection h with h1 h2
    subst h1; subst h2
    exact ⟨rfl, rfl, by simp [tot]⟩
  | k + 1, tick, rest, q, l, hb, h => by
    rw [decs] at h
    rcases go3 hb with ⟨g, g2⟩ | ⟨a, hh, c, g, g2, ga, gh, gc, g3⟩
    · rw [g] at h; cases h
    · rw [g] at h
      dsimp only at h
      have hml : (rest.drop 7).length = rest.length - 7 := by simp
      generalize rest.drop 7 = more at hml g3 h
      have hbm : Bytes more := by rw [g3] at hb; exact hb.right.right.right
      split at h
      · cases h
      · rename_i d
        split at h
        · cases h
        · rename_i d2
          obtain ⟨p, hp, hq⟩ := Option.map_eq_some_iff.1 h
          obtain ⟨q', l'⟩ := p
          injection hq with hq1 hq2
          dsimp only at hq1 hq2
          subst hq1; subst hq2
          obtain ⟨i1, i2, i3⟩ := encs_decs k (tick + a) (more.drop c.toNat) q' l' (hbm.drop _) hp
          have hlen : (more.take c.toNat).length = c.toNat := by rw [List.length_take]; omega
          refine ⟨?_, by simp [i2], ?_⟩
          · rw [encs, recB]
            dsimp only
            rw [hlen, show tick + a - tick = a by omega, show hh / 128 * 128 + hh % 128 = hh by omega, show ((c.toNat : Nat) : Int) = c by omega]
            simp only [List.append_assoc]
            rw [← i1, List.take_append_drop]
            exact g3
          · simp only [tot, hlen]
            simp only [List.length_drop] at i3
            omega
theorem enc_dec (b : List Int) (hb : Bytes b) (l : List R) (h : decOf b = some l) : right l = true ∧ encOf l = b ∧ tot l ≤ b.length := by
  unfold decOf at h
  split at h
  · cases h
  rename_i a
  split at h
  · cases h
  rename_i c
  have c2 : num (b.drop (b.length - 4)) = sumOf (b.take (b.length - 4)) := Classical.not_not.1 c
  have hbb : Bytes (b.take (b.length - 4)) := hb.take _
  have hbl : (b.take (b.length - 4)).length = b.length - 4 := by simp
  have hab := List.take_append_drop (b.length - 4) b
  have hbe := be_take (hb.drop (b.length - 4)) (s := 4) (by omega) (by simp; omega)
  rw [List.take_of_length_le (by simp; omega)] at hbe
  generalize b.take (b.length - 4) = body at hbb hbl hab c2 h
  generalize b.drop (b.length - 4) = en at hab hbe c2
  obtain ⟨m, k, g, gk, g2⟩ := go2 hbb (by omega)
  rw [g] at h
  dsimp only at h
  split at h
  · cases h
  rename_i d
  have d1 : m = 1112690517 := Classical.not_not.1 d
  split at h
  · cases h
  rename_i d2
  have hrb : Bytes (body.drop 6) := hbb.drop 6
  have hrl : (body.drop 6).length = body.length - 6 := by simp
  generalize body.drop 6 = rest at hrb hrl g2 h
  split at h
  · rename_i l' hd
    split at h
    · rename_i hr
      injection h with h
      subst h
      obtain ⟨i1, i2, i3⟩ := encs_decs _ _ _ _ _ hrb hd
      refine ⟨hr, ?_, by omega⟩
      have hbody : bodyB l' = body := by
        unfold bodyB headB
        rw [g2, d1, i2, show ((k.toNat : Nat) : Int) = k by omega, i1, List.append_nil, List.append_assoc]
      unfold encOf
      rw [hbody, ← c2, hbe, hab]
    · cases h
  · cases h

theorem recB_bytes (last : Int) (r : R) (h : Bytes r.2.2.2) : Bytes (recB last r) := (be_bytes _ _).append ((be_bytes _ _).append ((be_bytes _ _).append h))
theorem encs_bytes : ∀ (last : Int) (l : List R), (∀ r ∈ l, Bytes r.2.2.2) → Bytes (encs last l)
  | _, [], _ => Bytes.nil
  | last, r :: l, h => (recB_bytes last r (h r (by simp))).append (encs_bytes r.1 l (fun x hx => h x (by simp [hx])))
theorem encOf_bytes (l : List R) (h : ∀ r ∈ l, Bytes r.2.2.2) : Bytes (encOf l) := (((be_bytes _ _).append (be_bytes _ _)).append (encs_bytes 0 l h)).append (be_bytes _ _)
theorem encOf_len (l : List R) : (encOf l).length = 10 + (tot l + 7 * l.length) := by
  unfold encOf bodyB; rw [List.length_append, List.length_append, headB_len, encs_len, be_len]; omega

theorem second (b : List Int) (hb : Bytes b) (hl : b.length ≤ 5000) : Ev (fun n =>
      (f28_capture_Decode n b).bind fun r508_0 =>
      (f20_capture_Encode n r508_0.1).bind fun r509_0 =>
      if (!r508_0.2) = true then
        (f27_broughamlaw34_alive n).bind fun r510_0 =>
        some r510_0
      else
        if r509_0.2 = true then
          if ((strOfNums r509_0.1).toList == (strOfNums b).toList) = true then
            (f27_broughamlaw34_alive n).bind fun r510_0 =>
            some r510_0
          else
            some false
        else
          some false) (fun r => r = true) := by
  refine Ev.bind (dec_is b hb (by omega)) ?_
  rintro _ rfl
  cases hd : decOf b with
  | none =>
    refine Ev.bind (enc_is [] (by simp [tot])) ?_
    rintro _ rfl
    exact Ev.pos rfl (Ev.bind alive_ev (fun r hr => Ev.some hr))
  | some l =>
    obtain ⟨h1, h2, h3⟩ := enc_dec b hb l hd
    refine Ev.bind (enc_is l (by omega)) ?_
    rintro _ rfl
    rw [if_pos h1, h2]
    refine Ev.neg (by simp) (Ev.pos rfl (Ev.pos (str_refl _) ?_))
    exact Ev.bind alive_ev (fun r hr => Ev.some hr)

theorem CaptureBack (l : List R) (h0 : K.ok (.slice KR) l) (b : List Int) (h1 : K.ok (.slice (.int .u8)) b) : ∃ n, f6_broughamlaw34_CaptureBack n l b = some true := by
  apply Ev.true
  unfold f6_broughamlaw34_CaptureBack
  have hb := ok_bytes h1
  refine Ev.bind (great_is l h0) ?_
  rintro _ (rfl | ⟨rfl, hl, ht⟩)
  · exact Ev.pos rfl (Ev.some rfl)
  refine Ev.neg (by simp) (Ev.ite (fun _ => Ev.some rfl) fun a => ?_)
  simp only [decide_eq_true_eq] at a
  refine Ev.bind (enc_is l (by omega)) ?_
  rintro _ rfl
  by_cases hr : right l = true
  · rw [if_pos hr]
    have hlb : ∀ r ∈ l, Bytes r.2.2.2 := fun r hr => ok_bytes (h0.2 r hr).2.2.2
    refine Ev.bind (dec_is (encOf l) (encOf_bytes l hlb) (by rw [encOf_len]; omega)) ?_
    rw [dec_enc l hr]
    rintro _ rfl
    refine Ev.pos rfl (Ev.neg (by simp) ?_)
    refine Ev.bind (plain_is l (by omega)) ?_
    rintro _ rfl
    refine Ev.bind (plain_is l (by omega)) ?_
    rintro _ rfl
    refine Ev.bind (same_is _ (by rw [List.length_map]; omega)) ?_
    rintro _ rfl
    exact Ev.neg (by simp) (second b hb (by omega))
  · rw [if_neg hr]
    refine Ev.bind (dec_is [] Bytes.nil (by simp)) ?_
    rintro _ rfl
    exact Ev.neg (by simp) (second b hb (by omega))
end Go.Proofs.YtjoibacjpapncaaF34
