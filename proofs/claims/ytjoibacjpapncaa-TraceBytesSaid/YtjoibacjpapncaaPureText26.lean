/- What functions of this text leave, in plain numbers: proved for another text, and for this one by the same steps. Conditions: none. -/
import Derived.Test.YtjoibacjpapncaaPureLib26
namespace Go.Proofs.YtjoibacjpapncaaF26
open Go Zed Go.Proofs.YtjoibacjpapncaaLeaf
set_option linter.unusedVariables false
set_option linter.unusedSimpArgs false

theorem str_dec (a b : ByteArray) : (a.toList == b.toList) = decide (a.data.toList = b.data.toList) := by
  rw [ByteArray.toList_eq, ByteArray.toList_eq, Bool.eq_iff_iff, beq_iff_eq, decide_eq_true_eq]
theorem size_len (s : ByteArray) : s.size = s.data.toList.length := Lib.size_eq s
theorem byte_at {s : ByteArray} {i : Nat} (h : i < s.data.toList.length) : byteAt s (i : Int) = ((s.data.toList[i]'h).toNat : Int) := by
  have h' : i < s.size := by rw [size_len]; exact h
  unfold byteAt
  rw [dif_pos (by rw [Int.toNat_natCast]; exact h')]
  simp only [Int.toNat_natCast]
  rfl
theorem dig_ext : ∀ m : Fin 10, (⟨#[48, 49, 50, 51, 52, 53, 54, 55, 56, 57]⟩ : ByteArray).extract m.val (m.val + 1) = ⟨[(48 + m.val).toUInt8].toArray⟩ := by decide
theorem dig_ext' (m : Nat) (h : m < 10) : (⟨#[48, 49, 50, 51, 52, 53, 54, 55, 56, 57]⟩ : ByteArray).extract m (m + 1) = ⟨[(48 + m).toUInt8].toArray⟩ := dig_ext ⟨m, h⟩
theorem cut_dig (m : Nat) (h : m < 10) : cutOk (⟨#[48, 49, 50, 51, 52, 53, 54, 55, 56, 57]⟩ : ByteArray).size (some (m : Int)) (some (IntKind.wrap .i64 ((m : Int) + 1))) none := by
  rw [i64_id (by omega) (by omega)]
  have e : (⟨#[48, 49, 50, 51, 52, 53, 54, 55, 56, 57]⟩ : ByteArray).size = 10 := rfl
  rw [e]
  simp [cutOk]; omega
theorem app_arr (a b : List UInt8) : (⟨a.toArray⟩ : ByteArray) ++ ⟨b.toArray⟩ = ⟨(a ++ b).toArray⟩ := by
  apply ByteArray.ext
  simp
theorem textF_len : ∀ (k n : Nat), (textF k n).length ≤ k
  | 0, _ => Nat.le_refl _
  | k + 1, n => by
    rw [textF]; split
    · simp
    · have := textF_len k (n / 10); simp; omega
theorem reftext_is : ∀ (k m : Nat) (hk : k < 30) (hm : m < 10 ^ (k + 1)) (h63 : m ≤ 9223372036854775807), Ev (fun n => f70_broughamref01_Text n (m : Int)) (fun r => r = ⟨(textF (k + 1) m).toArray⟩) := by
  intro k
  induction k with
  | zero =>
    intro m hk hm h63
    have hm : m < 10 := by simpa using hm
    apply Ev.succ
    unfold f70_broughamref01_Text
    refine Ev.pos (by simp only [decide_eq_true_eq]; omega) (Ev.neg (by simp only [decide_eq_true_eq]; omega) (Ev.guard (cut_dig m hm) (Ev.some ?_)))
    rw [i64_id (by omega) (by omega), show ((m : Int) + 1).toNat = m + 1 by omega, Int.toNat_natCast, dig_ext' m hm, textF, if_pos hm]
  | succ k ih =>
    intro m hk hm h63
    apply Ev.succ
    unfold f70_broughamref01_Text
    refine Ev.ite (fun c => ?_) (fun c => ?_)
    · simp only [decide_eq_true_eq] at c
      refine Ev.neg (by simp only [decide_eq_true_eq]; omega) (Ev.guard (cut_dig m (by omega)) (Ev.some ?_))
      rw [i64_id (by omega) (by omega), show ((m : Int) + 1).toNat = m + 1 by omega, Int.toNat_natCast, dig_ext' m (by omega), textF, if_pos (by omega)]
    · simp only [decide_eq_true_eq] at c
      have e1 : IntKind.wrap .i64 (Int.tdiv (m : Int) 10) = ((m / 10 : Nat) : Int) := by
        rw [tdiv_e (by omega), i64_id (by omega) (by omega)]; omega
      have e2 : Int.tmod (m : Int) 10 = ((m % 10 : Nat) : Int) := by
        rw [tmod_e (by omega)]; omega
      rw [e1, e2]
      refine Ev.bind (ih (m / 10) (by omega) (by rw [Nat.pow_succ] at hm; omega) (by omega)) ?_
      rintro _ rfl
      have e3 : IntKind.wrap .i64 (((m % 10 : Nat) : Int) + 1) = ((m % 10 : Nat) : Int) + 1 := i64_id (by omega) (by omega)
      have hlen := textF_len (k + 1) (m / 10)
      refine Ev.guard (cut_dig (m % 10) (by omega)) ?_
      rw [e3, show (((m % 10 : Nat) : Int) + 1).toNat = m % 10 + 1 by omega, Int.toNat_natCast, dig_ext' (m % 10) (by omega)]
      refine Ev.guard ?_ (Ev.some ?_)
      · have : (⟨(textF (k + 1) (m / 10)).toArray⟩ : ByteArray).size = (textF (k + 1) (m / 10)).length := by simp [ByteArray.size]
        rw [this]
        have : (⟨[(48 + m % 10).toUInt8].toArray⟩ : ByteArray).size = 1 := by simp [ByteArray.size]
        rw [this]; omega
      · rw [app_arr]
        congr 2
        show _ = (if m < 10 then _ else _)
        rw [if_neg (by omega)]
theorem textZ (n : Int) (h0 : -9223372036854775808 ≤ n) (h1 : n < 9223372036854775808) : Ev (fun k => f70_broughamref01_Text k n) (fun r => r = textB n) := by
  unfold textB
  by_cases h : 0 ≤ n
  · obtain ⟨m, rfl⟩ := Int.eq_ofNat_of_zero_le h
    rw [Int.toNat_natCast]
    exact reftext_is 19 m (by omega) (by omega) (by omega)
  · rw [show n.toNat = 0 by omega]
    apply Ev.succ
    unfold f70_broughamref01_Text
    refine Ev.pos (by simp only [decide_eq_true_eq]; omega) (Ev.pos (by simp only [decide_eq_true_eq]; omega) (Ev.guard (cut_dig 0 (by omega)) (Ev.some ?_)))
    rfl
theorem text_ev (n : Int) (h0 : -9223372036854775808 ≤ n) (h1 : n < 9223372036854775808) : Ev (fun _ => f102_num_Text n) (fun r => r = textB n) := by
  unfold f102_num_Text
  exact Ev.pos ⟨h0, by omega⟩ (Ev.some rfl)
abbrev dg : ByteArray := ⟨#[48, 49, 50, 51, 52, 53, 54, 55, 56, 57, 97, 98, 99, 100, 101, 102]⟩
theorem mul_is {h l : Int} (h0 : 0 ≤ h ∧ h < 16) (l0 : 0 ≤ l ∧ l < 16) : IntKind.wrap .u8 (IntKind.wrap .i64 ((IntKind.wrap .i64 (h * 16)) + l)) = h * 16 + l := by
  rw [i64_id (e := h * 16) (by omega) (by omega), i64_id (by omega) (by omega), u8_id (by omega) (by omega)]
theorem hex_ev (b : List Int) (hl : b.length ≤ 20000) (hb : Bytes b) : Ev (fun _ => f115_num_Hex b) (fun r => r = hexB b) := by
  unfold f115_num_Hex
  exact Ev.pos ⟨by omega, hb⟩ (Ev.some rfl)
theorem dg_at (n : Nat) (h : n < 16) : byteAt dg (n : Int) = ((hexD n).toNat : Int) := by
  have h' : n < dg.size := h
  unfold byteAt
  rw [dif_pos (by rw [Int.toNat_natCast]; exact h')]
  simp only [Int.toNat_natCast]
  have := dig_is n h
  exact congrArg (fun x : UInt8 => (x.toNat : Int)) this
theorem refhex_loop (b : List Int) (hl : b.length ≤ 20000) (hb : Bytes b) : ∀ (d i : Nat) (hi : i + d = b.length) (s : List Int) (hs : s = (hexL ((b.take i).map fun x => x.toNat.toUInt8)).map fun c => (c.toNat : Int)),
    Ev (fun n => f121_broughamref01_Hex_L5 n b s (i : Int)) (fun w => w = (hexL (b.map fun x => x.toNat.toUInt8)).map fun c => (c.toNat : Int))
  | 0, i, hi, s, hs => by
    apply Ev.succ
    unfold f121_broughamref01_Hex_L5
    refine Ev.neg (by simp only [decide_eq_true_eq]; omega) (Ev.some ?_)
    rw [hs, List.take_of_length_le (by omega)]
  | d + 1, i, hi, s, hs => by
    have hil : i < b.length := by omega
    have hx := hb.get i
    have hslen : s.length ≤ 40000 := by rw [hs, List.length_map, hexL_len, List.length_map, List.length_take]; omega
    apply Ev.succ
    unfold f121_broughamref01_Hex_L5
    rw [Int.toNat_natCast, i64_id (e := (i : Int) + 1) (by omega) (by omega), tdiv_e hx.1, tmod_e hx.1, u8_id (by omega) (by omega)]
    generalize hxv : b.getD i 0 = x at hx
    have e1 : (x / 16 : Int) = ((x.toNat / 16 : Nat) : Int) := by omega
    have e2 : (x % 16 : Int) = ((x.toNat % 16 : Nat) : Int) := by omega
    rw [e1, e2, dg_at _ (by omega), dg_at _ (by omega)]
    have hdg : (dg.size : Int) = 16 := rfl
    refine Ev.pos (by simp only [decide_eq_true_eq]; omega) (Ev.guard (by omega) (Ev.guard (by rw [hdg]; omega) (Ev.guard (by omega) (Ev.guard (by rw [hdg]; omega) (Ev.guard (by simp only [List.length_cons, List.length_nil, maxLen]; omega) ?_)))))
    refine refhex_loop b hl hb d (i + 1) (by omega) _ ?_
    have htake : b.take (i + 1) = b.take i ++ [x] := by
      rw [List.take_add_one, List.getElem?_eq_getElem hil, ← hxv]
      simp [List.getD_eq_getElem?_getD, List.getElem?_eq_getElem hil]
    have e : (x.toNat.toUInt8).toNat = x.toNat := by simp; omega
    rw [hs, htake, List.map_append]
    show _ = (hexL (_ ++ [x.toNat.toUInt8])).map _
    rw [hexL_snoc, e]; simp
theorem refhex_is (b : List Int) (hl : b.length ≤ 20000) (hb : Bytes b) : Ev (fun n => f121_broughamref01_Hex n b) (fun r => r = hexB b) := by
  unfold f121_broughamref01_Hex hexB
  refine Ev.ite (fun c => Ev.some ?_) (fun c => ?_)
  · simp only [beq_iff_eq] at c
    rw [if_pos (List.eq_nil_of_length_eq_zero (by omega))]
  · simp only [beq_iff_eq] at c
    rw [if_neg (fun e => c (by subst e; rfl))]
    refine Ev.bind (refhex_loop b hl hb b.length 0 (by omega) [] rfl) ?_
    rintro _ rfl
    refine Ev.some ?_
    unfold strOfNums
    rw [List.map_map]
    congr 2
    conv => rhs; rw [← List.map_id (hexL _)]
    refine List.map_congr_left fun c _ => ?_
    simp
end Go.Proofs.YtjoibacjpapncaaF26
