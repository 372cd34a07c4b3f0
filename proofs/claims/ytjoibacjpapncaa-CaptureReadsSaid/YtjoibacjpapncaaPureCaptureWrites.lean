/- CaptureWrites: which captures may be, and their bytes; the sum of any bytes: of the functions that text F34 prints. Conditions: none. -/
import Derived.Test.YtjoibacjpapncaaPureCaptureBack
import Derived.Test.YtjoibacjpapncaaPureRef34
namespace Go.Proofs.YtjoibacjpapncaaF34
open Go Zed
set_option linter.unusedVariables false
set_option linter.unusedSimpArgs false

/-! The sum, in plain numbers. -/
theorem oneOf_is {c d : Int} (hc : 0 ≤ c ∧ c < 256) (hd : 0 ≤ d ∧ d < 256) : oneOf c d = c * 256 + d := by
  unfold oneOf
  rw [w_u32, w_u32, w_u32, show c % 4294967296 = c by omega, show d % 4294967296 = d by omega]
  have : (2 : Int) ^ 8 = 256 := by decide
  rw [this, show c * 256 % 4294967296 = c * 256 by omega]
  exact bits_join .u32 32 (by decide) wraps_u32 8 _ _ (by omega) (by omega) (by omega) (by omega) (by omega) (by omega)
def sumG : List Int → Int → Int → Int × Int
  | [], x, y => (x, y)
  | [c], x, y => ((x + c * 256) % 65535, (y + (x + c * 256) % 65535) % 65535)
  | c :: d :: l, x, y => sumG l ((x + (c * 256 + d)) % 65535) ((y + (x + (c * 256 + d)) % 65535) % 65535)
theorem sumG_in : ∀ (b : List Int) (x y : Int), 0 ≤ x ∧ x < 65535 → 0 ≤ y ∧ y < 65535 → (0 ≤ (sumG b x y).1 ∧ (sumG b x y).1 < 65535) ∧ (0 ≤ (sumG b x y).2 ∧ (sumG b x y).2 < 65535)
  | [], x, y, hx, hy => ⟨hx, hy⟩
  | [c], x, y, hx, hy => by simp only [sumG]; omega
  | c :: d :: l, x, y, hx, hy => sumG_in l _ _ (by omega) (by omega)
theorem sumF_G : ∀ (b : List Int) (x y : Int), Bytes b → 0 ≤ x ∧ x < 65535 → 0 ≤ y ∧ y < 65535 → sumF b x y = sumG b x y
  | [], x, y, hb, hx, hy => rfl
  | [c], x, y, hb, hx, hy => by
    have hc := hb.head
    have : (2 : Int) ^ 8 = 256 := by decide
    simp only [sumF, sumG]
    rw [w_u32, w_u32, w_u32, w_u32, this, tmod_e (by omega), tmod_e (by omega)]
    have e : (x + c % 4294967296 * 256 % 4294967296) % 4294967296 % 65535 = (x + c * 256) % 65535 := by
      rw [show c % 4294967296 = c by omega, show c * 256 % 4294967296 = c * 256 by omega, show (x + c * 256) % 4294967296 = x + c * 256 by omega]
    rw [e, show (y + (x + c * 256) % 65535) % 4294967296 = y + (x + c * 256) % 65535 by omega]
  | c :: d :: l, x, y, hb, hx, hy => by
    have hc := hb.head
    have hd := hb.tail.head
    simp only [sumF, sumG]
    rw [oneOf_is hc hd, w_u32, w_u32, tmod_e (by omega), tmod_e (by omega)]
    have e : (x + (c * 256 + d)) % 4294967296 % 65535 = (x + (c * 256 + d)) % 65535 := by
      rw [show (x + (c * 256 + d)) % 4294967296 = x + (c * 256 + d) by omega]
    rw [e, show (y + (x + (c * 256 + d)) % 65535) % 4294967296 = y + (x + (c * 256 + d)) % 65535 by omega]
    exact sumF_G l _ _ hb.tail.tail (by omega) (by omega)
theorem sumOf_G (b : List Int) (hb : Bytes b) : sumOf b = (sumG b 0 0).2 * 65536 + (sumG b 0 0).1 := by
  unfold sumOf
  rw [sumF_G b 0 0 hb (by omega) (by omega)]
  have h := sumG_in b 0 0 (by omega) (by omega)
  generalize (sumG b 0 0).1 = x at h ⊢
  generalize (sumG b 0 0).2 = y at h ⊢
  have : (2 : Int) ^ 16 = 65536 := by decide
  rw [w_u32, this, show y * 65536 % 4294967296 = y * 65536 by omega]
  exact bits_join .u32 32 (by decide) wraps_u32 16 _ _ (by omega) (by omega) (by omega) (by omega) (by omega) (by omega)

theorem drop_two {α : Type} {l : List α} {i : Nat} {x y : α} {r : List α} (h : l.drop i = x :: y :: r) : l.drop (i + 1) = y :: r ∧ l.drop (i + 2) = r ∧ i + 1 < l.length := by
  have h1 := congrArg (List.drop 1) h
  rw [List.drop_drop] at h1
  have h2 := congrArg (List.drop 2) h
  rw [List.drop_drop] at h2
  have h3 := congrArg List.length h
  simp at h3
  exact ⟨h1, h2, by omega⟩
theorem drop_head {α : Type} {l : List α} {i : Nat} {x : α} {r : List α} (h : l.drop i = x :: r) (d : α) : i < l.length ∧ l.getD i d = x := by
  have h3 := congrArg List.length h
  simp at h3
  have hi : i < l.length := by omega
  rw [drop_cons hi d] at h
  exact ⟨hi, (List.cons.inj h).1⟩

theorem refSumLoop (b : List Int) (hb : Bytes b) (hl : b.length ≤ 100000) : ∀ (f i : Nat) (r : List Int), r.length ≤ f → b.drop i = r → i % 2 = 0 → ∀ (x y : Int), 0 ≤ x ∧ x < 65535 → 0 ≤ y ∧ y < 65535 → Ev (fun n => f26_broughamref34_Sum_L3 n b x y (i : Int)) (fun s => s = sumG r x y)
  | f, i, [], hf, hr, hi, x, y, hx, hy => by
    apply Ev.succ
    simp only [f26_broughamref34_Sum_L3]
    have : b.length ≤ i := by have := congrArg List.length hr; simp at this; omega
    exact Ev.neg (by simp; omega) (Ev.some rfl)
  | f, i, [c], hf, hr, hi, x, y, hx, hy => by
    obtain ⟨h1, h2⟩ := drop_head hr 0
    have hlen : b.length = i + 1 := by have := congrArg List.length hr; simp at this; omega
    have hc : 0 ≤ c ∧ c < 256 := by rw [← h2]; exact hb.get i
    apply Ev.succ
    simp only [f26_broughamref34_Sum_L3]
    have hm : Int.tmod (i : Int) 2 = 0 := by rw [tmod_e (by omega)]; omega
    have e1 : IntKind.wrap .i64 (((b.length : Nat) : Int) - 1) = (i : Int) := by rw [i64_id] <;> omega
    have e2 : IntKind.wrap .i64 ((i : Int) + 1) = ((i + 1 : Nat) : Int) := nx (by omega)
    rw [hm, Int.toNat_natCast, h2, e1, e2]
    refine Ev.pos (by simp; omega) (Ev.guard (by omega) (Ev.pos (by decide) (Ev.neg (by decide) (Ev.pos (by simp) ?_))))
    rw [w_u64, w_u64, w_u64, w_u64, tmod_e (by omega), tmod_e (by omega)]
    apply Ev.succ
    simp only [f26_broughamref34_Sum_L3]
    refine Ev.neg (by simp; omega) (Ev.some ?_)
    simp only [sumG]
    have e : (x + c % 18446744073709551616 * 256 % 18446744073709551616) % 18446744073709551616 % 65535 = (x + c * 256) % 65535 := by
      rw [show c % 18446744073709551616 = c by omega, show c * 256 % 18446744073709551616 = c * 256 by omega, show (x + c * 256) % 18446744073709551616 = x + c * 256 by omega]
    rw [e, show (y + (x + c * 256) % 65535) % 18446744073709551616 = y + (x + c * 256) % 65535 by omega]
  | 0, i, c :: d :: r, hf, hr, hi, x, y, hx, hy => by simp at hf
  | f + 1, i, c :: d :: r, hf, hr, hi, x, y, hx, hy => by
    obtain ⟨h1, h2⟩ := drop_head hr 0
    obtain ⟨k1, k2, k3⟩ := drop_two hr
    obtain ⟨g1, g2⟩ := drop_head k1 0
    have hlen : b.length = i + 2 + r.length := by have := congrArg List.length hr; simp at this; omega
    have hc : 0 ≤ c ∧ c < 256 := by rw [← h2]; exact hb.get i
    have hd : 0 ≤ d ∧ d < 256 := by rw [← g2]; exact hb.get (i + 1)
    apply Ev.succ
    simp only [f26_broughamref34_Sum_L3]
    have hm : Int.tmod (i : Int) 2 = 0 := by rw [tmod_e (by omega)]; omega
    have e1 : IntKind.wrap .i64 (((b.length : Nat) : Int) - 1) = ((b.length - 1 : Nat) : Int) := by rw [i64_id] <;> omega
    have e2 : IntKind.wrap .i64 ((i : Int) + 1) = ((i + 1 : Nat) : Int) := nx (by omega)
    rw [hm, Int.toNat_natCast, h2, e1, e2]
    refine Ev.pos (by simp; omega) (Ev.guard (by omega) (Ev.pos (by decide) (Ev.neg (by decide) (Ev.neg (by simp; omega) ?_))))
    apply Ev.succ
    simp only [f26_broughamref34_Sum_L3]
    have hm2 : Int.tmod ((i + 1 : Nat) : Int) 2 = 1 := by rw [tmod_e (by omega)]; omega
    have e3 : IntKind.wrap .i64 (((i + 1 : Nat) : Int) + 1) = ((i + 2 : Nat) : Int) := nx (by omega)
    rw [hm2, Int.toNat_natCast, g2, e3]
    refine Ev.pos (by simp; omega) (Ev.guard (by omega) (Ev.neg (by decide) (Ev.pos (by decide) ?_)))
    rw [w_u64, w_u64, w_u64, w_u64, w_u64, w_u64, tmod_e (by omega), tmod_e (by omega)]
    have e : ((x + c % 18446744073709551616 * 256 % 18446744073709551616) % 18446744073709551616 + d % 18446744073709551616) % 18446744073709551616 % 65535 = (x + (c * 256 + d)) % 65535 := by
      rw [show c % 18446744073709551616 = c by omega, show d % 18446744073709551616 = d by omega, show c * 256 % 18446744073709551616 = c * 256 by omega, show (x + c * 256) % 18446744073709551616 = x + c * 256 by omega, show (x + c * 256 + d) % 18446744073709551616 = x + (c * 256 + d) by omega]
    rw [e, show (y + (x + (c * 256 + d)) % 65535) % 18446744073709551616 = y + (x + (c * 256 + d)) % 65535 by omega]
    simp only [sumG]
    exact refSumLoop b hb hl f (i + 2) r (by simp at hf; omega) k2 (by omega) _ _ (by omega) (by omega)
theorem refSum_is (b : List Int) (hb : Bytes b) (hl : b.length ≤ 100000) : Ev (fun n => f26_broughamref34_Sum n b) (fun r => r = sumOf b) := by
  unfold f26_broughamref34_Sum
  refine Ev.bind (refSumLoop b hb hl b.length 0 b (Nat.le_refl _) rfl rfl 0 0 (by omega) (by omega)) ?_
  rintro _ rfl
  refine Ev.some ?_
  rw [sumOf_G b hb]
  have h := sumG_in b 0 0 (by omega) (by omega)
  generalize (sumG b 0 0).1 = x at h ⊢
  generalize (sumG b 0 0).2 = y at h ⊢
  rw [w_u32, w_u64, w_u64]; omega

/-! Which may be. -/
theorem str_size (b : List Int) : (strOfNums b).size = b.length := strOfNums_size b
def prev (l : List R) (i : Nat) : Int := if i = 0 then 0 else (l.getD (i - 1) dR).1
theorem conv_at (l : List R) {i : Nat} (h : i < l.length) : (l.map conv).getD i (0, (0, (0, ByteArray.empty))) = conv (l.getD i dR) := by
  simp [List.getD, List.getElem?_eq_getElem h]
theorem refRightLoop (l : List R) (hl : l.length ≤ 3000000) : ∀ (m i : Nat), i + m = l.length → 0 ≤ prev l i → Ev (fun n => f24_broughamref34_Right_L2 n (l.map conv) (i : Int)) (fun r => r = if rgt (prev l i) (l.drop i) = true then .inr (l.map conv) else .inl false)
  | 0, i, hi, h0 => by
    apply Ev.succ
    simp only [f24_broughamref34_Right_L2]
    rw [List.drop_eq_nil_of_le (by omega)]
    exact Ev.neg (by simp; omega) (Ev.some rfl)
  | m + 1, i, hi, h0 => by
    have hlt : i < l.length := by omega
    have ih := refRightLoop l hl m (i + 1) (by omega)
    apply Ev.succ
    simp only [f24_broughamref34_Right_L2]
    rw [Int.toNat_natCast, conv_at l hlt, drop_cons hlt dR, nx (by omega)]
    have hk := okR_iff (prev l i) (l.getD i dR)
    have hprev : prev l (i + 1) = (l.getD i dR).1 := by simp [prev]
    rw [hprev] at ih
    have hp1 : i ≠ 0 → ((l.map conv).getD (IntKind.wrap .i64 ((i : Int) - 1)).toNat (0, (0, (0, ByteArray.empty)))).1 = prev l i := by
      intro hi0
      have e : (IntKind.wrap .i64 ((i : Int) - 1)).toNat = i - 1 := by rw [i64_id (by omega) (by omega)]; omega
      rw [e, conv_at l (by omega)]
      simp only [prev, if_neg hi0, conv]
    have hp2 : i = 0 → prev l i = 0 := by intro h; simp [prev, h]
    generalize hr : l.getD i dR = r at ih hk hprev ⊢
    obtain ⟨r1, r2, r3, r4⟩ := r
    simp only [conv] at hk ih ⊢
    have hs4 := str_size r4
    generalize prev l i = p at h0 hk hp1 hp2 ⊢
    have nv : ∀ {p : Prop} [Decidable p], ¬ (decide p) = true → ¬ p := fun h h2 => h (decide_eq_true h2)
    have bad : ¬ (p ≤ r1 ∧ r1 < 2147483648 ∧ 0 ≤ r2 ∧ r2 ≤ 1 ∧ 0 ≤ r3 ∧ r3 < 4 ∧ r4.length ≤ 2048) → (.inl false : Bool ⊕ List S) = if rgt p ((r1, r2, r3, r4) :: l.drop (i + 1)) = true then .inr (l.map conv) else .inl false := by
      intro hb
      rw [rgt, if_neg (by rw [Bool.and_eq_true]; exact fun h => hb (hk.1 h.1))]
    have good : (p ≤ r1 ∧ r1 < 2147483648 ∧ 0 ≤ r2 ∧ r2 ≤ 1 ∧ 0 ≤ r3 ∧ r3 < 4 ∧ r4.length ≤ 2048) → Ev (fun n => f24_broughamref34_Right_L2 n (l.map conv) ((i + 1 : Nat) : Int)) (fun r => r = if rgt p ((r1, r2, r3, r4) :: l.drop (i + 1)) = true then .inr (l.map conv) else .inl false) := by
      intro hg
      have := hk.2 hg
      rw [rgt, this, Bool.true_and]
      exact ih (by omega)
    refine Ev.pos (by simp; omega) (Ev.guard (by simp; omega) ?_)
    refine Ev.ite (fun a => Ev.some (bad (by have := of_decide_eq_true a; omega))) fun a1 => Ev.ite (fun a => Ev.some (bad (by have := of_decide_eq_true a; omega))) fun a2 => Ev.ite (fun a => ?_) fun a => ?_
    · have b1 := nv a1; have b2 := nv a2
      have ha := of_decide_eq_true a
      have hp := hp1 (by omega)
      refine Ev.guard (by rw [i64_id (by omega) (by omega)]; simp; omega) ?_
      rw [hp]
      refine Ev.ite (fun a => Ev.some (bad (by have := of_decide_eq_true a; omega))) fun a3 => Ev.ite (fun a => Ev.some (bad (by have := of_decide_eq_true a; omega))) fun a4 => Ev.ite (fun a => Ev.some (bad (by have := of_decide_eq_true a; omega))) fun a5 => Ev.ite (fun a => Ev.some (bad (by have := of_decide_eq_true a; omega))) fun a6 => Ev.ite (fun a => Ev.some (bad (by have := of_decide_eq_true a; omega))) fun a7 => Ev.ite (fun a => Ev.some (bad (by have := of_decide_eq_true a; omega))) fun a8 => good (by have b3 := nv a3; have b4 := nv a4; have b5 := nv a5; have b6 := nv a6; have b7 := nv a7; have b8 := nv a8; omega)
    · have b1 := nv a1; have b2 := nv a2
      have hp0 : p ≤ r1 := by
        have ha := nv a
        have := hp2 (by omega)
        omega
      refine Ev.ite (fun a => Ev.some (bad (by have := of_decide_eq_true a; omega))) fun a4 => Ev.ite (fun a => Ev.some (bad (by have := of_decide_eq_true a; omega))) fun a5 => Ev.ite (fun a => Ev.some (bad (by have := of_decide_eq_true a; omega))) fun a6 => Ev.ite (fun a => Ev.some (bad (by have := of_decide_eq_true a; omega))) fun a7 => Ev.ite (fun a => Ev.some (bad (by have := of_decide_eq_true a; omega))) fun a8 => good (by have b4 := nv a4; have b5 := nv a5; have b6 := nv a6; have b7 := nv a7; have b8 := nv a8; omega)
theorem refRight_is (l : List R) (hl : l.length ≤ 3000000) : Ev (fun n => f24_broughamref34_Right n (l.map conv)) (fun r => r = right l) := by
  unfold f24_broughamref34_Right
  refine Ev.bind (refRightLoop l hl l.length 0 (by omega) (by simp [prev])) ?_
  rw [List.drop_zero, show prev l 0 = 0 from rfl]
  rintro _ rfl
  unfold right
  by_cases h : rgt 0 l = true
  · rw [if_pos h, h, Bool.and_true]
    refine Ev.some ?_
    rw [List.length_map]
    exact decide_eq_decide.2 (by omega)
  · rw [if_neg h]
    refine Ev.some ?_
    cases hr : rgt 0 l with
    | true => exact absurd hr h
    | false => rw [Bool.and_false]

/-! The bytes. -/
theorem bytesOf_str {b : List Int} (h : Bytes b) : bytesOf (strOfNums b) = b := by
  unfold bytesOf
  rw [strOfNums_data, List.map_map]
  conv => rhs; rw [← List.map_id b]
  refine List.map_congr_left fun x hx => ?_
  have := h x hx
  simp only [Function.comp, UInt8.toNat_ofNat', id]
  omega
theorem refEncLoop (l : List R) (hl : l.length ≤ 1024) (hlb : ∀ r ∈ l, Bytes r.2.2.2) : ∀ (m i : Nat), i + m = l.length → ∀ (b : List Int) (last : Int), 0 ≤ last → rgt last (l.drop i) = true → b.length + (encs last (l.drop i)).length ≤ 90000 →
    Ev (fun n => f21_broughamref34_Encode_L6 n (l.map conv) b last (i : Int)) (fun r => r = b ++ encs last (l.drop i))
  | 0, i, hi, b, last, h0, hr, hb => by
    apply Ev.succ
    simp only [f21_broughamref34_Encode_L6]
    rw [List.drop_eq_nil_of_le (by omega), encs, List.append_nil]
    exact Ev.neg (by simp; omega) (Ev.some rfl)
  | m + 1, i, hi, b, last, h0, hr, hb => by
    have hlt : i < l.length := by omega
    have hmem : Bytes (l.getD i dR).2.2.2 := hlb _ (getD_mem hlt dR)
    have ih := refEncLoop l hl hlb m (i + 1) (by omega)
    apply Ev.succ
    simp only [f21_broughamref34_Encode_L6]
    rw [drop_cons hlt dR] at hr hb ⊢
    rw [Int.toNat_natCast, conv_at l hlt, nx (by omega)]
    rw [rgt, Bool.and_eq_true, okR_iff] at hr
    rw [encs, List.length_append, recB_len] at hb
    rw [encs]
    obtain ⟨⟨r1, r2, r3, r4, r5, r6, r7⟩, hr2⟩ := hr
    generalize l.getD i dR = r at hmem hr2 hb r1 r2 r3 r4 r5 r6 r7 ⊢
    obtain ⟨a1, a2, a3, a4⟩ := r
    simp only [conv] at hmem hr2 hb r1 r2 r3 r4 r5 r6 r7 ⊢
    rw [str_size, i64_id (show -9223372036854775808 ≤ a1 - last by omega) (by omega), u64_id (show 0 ≤ a1 - last by omega) (by omega), u64_id (show (0 : Int) ≤ ((a4.length : Nat) : Int) by omega) (by omega)]
    have e8 : IntKind.wrap .u8 (IntKind.wrap .i64 (IntKind.wrap .i64 (128 * a2) + a3)) = a2 * 128 + a3 := by
      rw [i64_id (show -9223372036854775808 ≤ 128 * a2 by omega) (by omega), i64_id (by omega) (by omega), u8_id (by omega) (by omega)]; omega
    rw [e8]
    refine Ev.pos (by simp; omega) (Ev.guard (by simp; omega) ?_)
    refine Ev.bind (refPut 4 b (a1 - last) (by omega) (by omega) (by omega)) ?_
    rintro _ rfl
    have hl4 : (b ++ be 4 (a1 - last)).length = b.length + 4 := by simp [be_len]
    refine Ev.guard (by simp; omega) (Ev.guard (by simp; omega) (Ev.guard ?_ (Ev.guard (by simp; omega) ?_)))
    · rw [hl4]; simp only [List.length_singleton, maxLen]; omega
    refine Ev.bind (refPut 2 _ ((a4.length : Nat) : Int) (by omega) (by simp [be_len]; omega) (by omega)) ?_
    rintro _ rfl
    have hb1 : be 1 (a2 * 128 + a3) = [a2 * 128 + a3] := be1 (by unfold U8; omega)
    have e : ((b ++ be 4 (a1 - last) ++ [a2 * 128 + a3]) ++ be 2 ((a4.length : Nat) : Int)) ++ a4 = b ++ recB last (a1, a2, a3, a4) := by
      unfold recB; simp only [hb1, List.append_assoc]
    have hl6 : ((b ++ be 4 (a1 - last) ++ [a2 * 128 + a3]) ++ be 2 ((a4.length : Nat) : Int)).length = b.length + 7 := by simp [be_len]
    refine Ev.guard (by simp; omega) (Ev.guard ?_ (Ev.guard (by simp; omega) ?_))
    · rw [hl6, bytesOf_str hmem]; simp only [maxLen]; omega
    rw [bytesOf_str hmem, e, ← List.append_assoc]
    exact ih (b ++ recB last (a1, a2, a3, a4)) a1 (by omega) hr2 (by rw [List.length_append, recB_len]; dsimp only; omega)
theorem refEnc_is (l : List R) (ht : tot l ≤ 30000) (hll : l.length ≤ 3000000) (hlb : ∀ r ∈ l, Bytes r.2.2.2) : Ev (fun n => f21_broughamref34_Encode n (l.map conv)) (fun r => r = if right l = true then (encOf l, true) else ([], false)) := by
  unfold f21_broughamref34_Encode
  refine Ev.bind (refRight_is l hll) ?_
  rintro _ rfl
  refine Ev.ite (fun a => Ev.some ?_) fun a => ?_
  · rw [if_neg (by intro h; rw [h] at a; cases a)]
  have hr : right l = true := by cases h : right l with | true => rfl | false => exact absurd (by rw [h]; rfl) a
  rw [if_pos hr]
  unfold right at hr
  rw [Bool.and_eq_true, decide_eq_true_eq] at hr
  have hel := encs_len 0 l
  refine Ev.bind (refPut2 4 1112690517 (by omega) (by omega)) ?_
  rintro _ rfl
  rw [List.length_map, u64_id (show (0 : Int) ≤ ((l.length : Nat) : Int) by omega) (by omega)]
  refine Ev.bind (refPut 2 (be 4 1112690517) ((l.length : Nat) : Int) (by omega) (by simp [be_len]) (by omega)) ?_
  rintro _ rfl
  have hbl : (bodyB l).length = 6 + (tot l + 7 * l.length) := by unfold bodyB; rw [List.length_append, headB_len, hel]
  have := refEncLoop l hr.1 hlb l.length 0 (by omega) (headB l.length) 0 (by omega) (by rw [List.drop_zero]; exact hr.2) (by rw [List.drop_zero, headB_len]; omega)
  rw [List.drop_zero] at this
  refine Ev.bind this ?_
  intro r hb
  have hb2 : r = bodyB l := hb
  rw [hb2]
  have hbb : Bytes (bodyB l) := ((be_bytes _ _).append (be_bytes _ _)).append (encs_bytes 0 l hlb)
  refine Ev.bind (refSum_is (bodyB l) hbb (by omega)) ?_
  rintro _ rfl
  have hs := sumOf_in (bodyB l)
  rw [u64_id hs.1 (by omega)]
  refine Ev.bind (refPut 4 (bodyB l) (sumOf (bodyB l)) (by omega) (by omega) (by omega)) ?_
  rintro _ rfl
  exact Ev.some rfl

theorem CaptureWrites (l : List R) (h0 : K.ok (.slice KR) l) (b : List Int) (h1 : K.ok (.slice (.int .u8)) b) : ∃ n, f4_broughamlaw34_CaptureWrites n l b = some true := by
  apply Ev.true
  unfold f4_broughamlaw34_CaptureWrites
  have hb := ok_bytes h1
  refine Ev.bind (great_is l h0) ?_
  rintro _ (rfl | ⟨rfl, hl, ht⟩)
  · exact Ev.pos rfl (Ev.some rfl)
  refine Ev.neg (by simp) (Ev.ite (fun _ => Ev.some rfl) fun a => ?_)
  simp only [decide_eq_true_eq] at a
  have hlb : ∀ r ∈ l, Bytes r.2.2.2 := fun r hr => ok_bytes (h0.2 r hr).2.2.2
  refine Ev.bind (enc_is l (by omega)) ?_
  rintro _ rfl
  refine Ev.bind (plain_is l (by omega)) ?_
  rintro _ rfl
  refine Ev.bind (refEnc_is l (by omega) (by omega) hlb) ?_
  rintro _ rfl
  refine Ev.pos (str_refl _) (Ev.pos (by simp) ?_)
  refine Ev.bind (right_is l) ?_
  rintro _ rfl
  refine Ev.bind (plain_is l (by omega)) ?_
  rintro _ rfl
  refine Ev.bind (refRight_is l (by omega)) ?_
  rintro _ rfl
  refine Ev.pos (by simp) ?_
  refine Ev.bind (sum_is b (by omega)) ?_
  rintro _ rfl
  refine Ev.bind (refSum_is b hb (by omega)) ?_
  rintro _ rfl
  refine Ev.pos (by simp) ?_
  exact Ev.bind alive_ev (fun r hr => Ev.some hr)
end Go.Proofs.YtjoibacjpapncaaF34
