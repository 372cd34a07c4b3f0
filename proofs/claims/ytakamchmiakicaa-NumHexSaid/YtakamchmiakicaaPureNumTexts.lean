/- NumTexts: each count is written in decimal digits, and read back; other texts are refused: of the functions that text F01 prints. Conditions: none. -/
import Derived.Test.YtakamchmiakicaaPureNums
namespace Go.Proofs.YtakamchmiakicaaF01
open Go Zed Go.Proofs.YtakamchmiakicaaLeaf
set_option linter.unusedVariables false
set_option linter.unusedSimpArgs false

theorem str_dec (a b : ByteArray) : (a.toList == b.toList) = decide (a.data.toList = b.data.toList) := by
  rw [ByteArray.toList_eq, ByteArray.toList_eq, Bool.eq_iff_iff, beq_iff_eq, decide_eq_true_eq]
theorem size_len (s : ByteArray) : s.size = s.data.toList.length := Lib.size_eq s
theorem byte_at {s : ByteArray} {i : Nat} (h : i < s.data.toList.length) : byteAt s (i : Int) = ((s.data.toList[i]'h).toNat : Int) := by
  have h' : i < s.size := by rw [size_len]; exact h
  unfold byteAt
  rw [dif_pos (by rw [Int.toNat_natCast]; exact h')]
  simp only [Int.toNat_natCast]
  rfl
theorem valF_lt (l : List UInt8) : ∀ a, Digs l → valF a l < (a + 1) * 10 ^ l.length := by
  induction l with
  | nil =>
    intro a _
    have : valF a [] < (a + 1) * 10 ^ 0 := by
      rw [show valF a [] = a from rfl]; omega
    exact this
  | cons c l ih =>
    intro a hd
    have hc := hd c List.mem_cons_self
    have h := ih (a * 10 + (c.toNat - 48)) (fun d h => hd d (List.mem_cons_of_mem _ h))
    have h2 : (a * 10 + (c.toNat - 48) + 1) * 10 ^ l.length ≤ ((a + 1) * 10) * 10 ^ l.length := Nat.mul_le_mul_right _ (by omega)
    rw [List.length_cons, Nat.pow_succ, Nat.mul_comm (10 ^ l.length), ← Nat.mul_assoc]
    exact Nat.lt_of_lt_of_le h h2
theorem dig_ext : ∀ m : Fin 10, (⟨#[48, 49, 50, 51, 52, 53, 54, 55, 56, 57]⟩ : ByteArray).extract m.val (m.val + 1) = ⟨[(48 + m.val).toUInt8].toArray⟩ := by decide
theorem dig_ext' (m : Nat) (h : m < 10) : (⟨#[48, 49, 50, 51, 52, 53, 54, 55, 56, 57]⟩ : ByteArray).extract m (m + 1) = ⟨[(48 + m).toUInt8].toArray⟩ := dig_ext ⟨m, h⟩
theorem cut_dig (m : Nat) (h : m < 10) : cutOk (⟨#[48, 49, 50, 51, 52, 53, 54, 55, 56, 57]⟩ : ByteArray).size (some (m : Int)) (some (IntKind.wrap .i64 ((m : Int) + 1))) none := by
  rw [i64_id (by omega) (by omega)]
  have e : (⟨#[48, 49, 50, 51, 52, 53, 54, 55, 56, 57]⟩ : ByteArray).size = 10 := rfl
  rw [e]
  simp [cutOk]; omega
theorem app_arr (a b : List UInt8) : (⟨a.toArray⟩ : ByteArray) ++ ⟨b.toArray⟩ = ⟨(a ++ b).toArray⟩ := by
  apply ByteArray.ext
  simp
theorem textF_len : ∀ (k n : Nat), (textF k n).length ≤ k
  | 0, _ => Nat.le_refl _
  | k + 1, n => by
    rw [textF]; split
    · simp
    · have := textF_len k (n / 10); simp; omega
theorem reftext_is : ∀ (k m : Nat) (hk : k < 30) (hm : m < 10 ^ (k + 1)) (h63 : m ≤ 9223372036854775807), Ev (fun n => f8_broughamref01_Text n (m : Int)) (fun r => r = ⟨(textF (k + 1) m).toArray⟩) := by
  intro k
  induction k with
  | zero =>
    intro m hk hm h63
    have hm : m < 10 := by simpa using hm
    apply Ev.succ
    unfold f8_broughamref01_Text
    refine Ev.pos (by simp only [decide_eq_true_eq]; omega) (Ev.neg (by simp only [decide_eq_true_eq]; omega) (Ev.guard (cut_dig m hm) (Ev.some ?_)))
    rw [i64_id (by omega) (by omega), show ((m : Int) + 1).toNat = m + 1 by omega, Int.toNat_natCast, dig_ext' m hm, textF, if_pos hm]
  | succ k ih =>
    intro m hk hm h63
    apply Ev.succ
    unfold f8_broughamref01_Text
    refine Ev.ite (fun c => ?_) (fun c => ?_)
    · simp only [decide_eq_true_eq] at c
      refine Ev.neg (by simp only [decide_eq_true_eq]; omega) (Ev.guard (cut_dig m (by omega)) (Ev.some ?_))
      rw [i64_id (by omega) (by omega), show ((m : Int) + 1).toNat = m + 1 by omega, Int.toNat_natCast, dig_ext' m (by omega), textF, if_pos (by omega)]
    · simp only [decide_eq_true_eq] at c
      have e1 : IntKind.wrap .i64 (Int.tdiv (m : Int) 10) = ((m / 10 : Nat) : Int) := by
        rw [tdiv_e (by omega), i64_id (by omega) (by omega)]; omega
      have e2 : Int.tmod (m : Int) 10 = ((m % 10 : Nat) : Int) := by
        rw [tmod_e (by omega)]; omega
      rw [e1, e2]
      refine Ev.bind (ih (m / 10) (by omega) (by rw [Nat.pow_succ] at hm; omega) (by omega)) ?_
      rintro _ rfl
      have e3 : IntKind.wrap .i64 (((m % 10 : Nat) : Int) + 1) = ((m % 10 : Nat) : Int) + 1 := i64_id (by omega) (by omega)
      have hlen := textF_len (k + 1) (m / 10)
      refine Ev.guard (cut_dig (m % 10) (by omega)) ?_
      rw [e3, show (((m % 10 : Nat) : Int) + 1).toNat = m % 10 + 1 by omega, Int.toNat_natCast, dig_ext' (m % 10) (by omega)]
      refine Ev.guard ?_ (Ev.some ?_)
      · have : (⟨(textF (k + 1) (m / 10)).toArray⟩ : ByteArray).size = (textF (k + 1) (m / 10)).length := by simp [ByteArray.size]
        rw [this]
        have : (⟨[(48 + m % 10).toUInt8].toArray⟩ : ByteArray).size = 1 := by simp [ByteArray.size]
        rw [this]; omega
      · rw [app_arr]
        congr 2
        show _ = (if m < 10 then _ else _)
        rw [if_neg (by omega)]
theorem textZ (n : Int) (h0 : -9223372036854775808 ≤ n) (h1 : n < 9223372036854775808) : Ev (fun k => f8_broughamref01_Text k n) (fun r => r = textB n) := by
  unfold textB
  by_cases h : 0 ≤ n
  · obtain ⟨m, rfl⟩ := Int.eq_ofNat_of_zero_le h
    rw [Int.toNat_natCast]
    exact reftext_is 19 m (by omega) (by omega) (by omega)
  · rw [show n.toNat = 0 by omega]
    apply Ev.succ
    unfold f8_broughamref01_Text
    refine Ev.pos (by simp only [decide_eq_true_eq]; omega) (Ev.pos (by simp only [decide_eq_true_eq]; omega) (Ev.guard (cut_dig 0 (by omega)) (Ev.some ?_)))
    rfl
theorem refparse_loop (s : ByteArray) (l : List UInt8) (hs : s.data.toList = l) : ∀ (d i : Nat) (hi : i + d = l.length) (h10 : i ≤ 10) (hd : Digs (l.take i)) (hh : 0 < i → l.length = 1 ∨ l.head? ≠ some 48),
    Ev (fun n => f6_broughamref01_Parse_L3 n s ((valF 0 (l.take i) : Nat) : Int) (i : Int)) (fun w => (w = .inl (0, 10) ∧ ¬ (Canon l ∧ valF 0 l ≤ 2147483647)) ∨ (w = .inr (s, ((valF 0 l : Nat) : Int)) ∧ (l ≠ [] → Canon l)))
  | 0, i, hi, h10, hd, hh => by
    have hsz : s.size = l.length := by rw [size_len, hs]
    apply Ev.succ
    unfold f6_broughamref01_Parse_L3
    refine Ev.neg (by rw [hsz]; simp only [decide_eq_true_eq]; omega) (Ev.some (.inr ⟨?_, fun hne => ⟨?_, hne, hh ?_⟩⟩))
    · rw [List.take_of_length_le (by omega)]
    · rw [List.take_of_length_le (by omega)] at hd; exact hd
    · have := List.length_pos_iff.2 hne; omega
  | d + 1, i, hi, h10, hd, hh => by
    have hsz : s.size = l.length := by rw [size_len, hs]
    have hil : i < l.length := by omega
    have hb : byteAt s (i : Int) = ((l[i]).toNat : Int) := by subst hs; exact byte_at hil
    have hb0 : byteAt s 0 = ((l[0]'(by omega)).toNat : Int) := by subst hs; exact byte_at (i := 0) (by omega)
    have h256 := (l[i]).toNat_lt
    have hmem : l[i] ∈ l := List.getElem_mem hil
    have hhead : l.head? = some (l[0]'(by omega)) := by
      rw [List.head?_eq_getElem?]; exact List.getElem?_eq_getElem _
    have htake : l.take (i + 1) = l.take i ++ [l[i]] := (List.take_append_getElem hil).symm
    apply Ev.succ
    unfold f6_broughamref01_Parse_L3
    rw [hsz, hb, hb0]
    refine Ev.pos (by simp only [decide_eq_true_eq]; omega) ?_
    refine Ev.ite (fun c => Ev.some (.inl ⟨rfl, fun q => ?_⟩)) (fun c9 => ?_)
    · simp only [decide_eq_true_eq] at c
      have := canon_len q.1 q.2; omega
    simp only [decide_eq_true_eq] at c9
    refine Ev.guard (by omega) (Ev.ite (fun c => Ev.some (.inl ⟨rfl, fun q => ?_⟩)) (fun c48 => ?_))
    · simp only [decide_eq_true_eq] at c
      have := q.1.1 _ hmem; omega
    simp only [decide_eq_true_eq] at c48
    refine Ev.guard (by omega) (Ev.ite (fun c => Ev.some (.inl ⟨rfl, fun q => ?_⟩)) (fun c57 => ?_))
    · simp only [decide_eq_true_eq] at c
      have := q.1.1 _ hmem; omega
    simp only [decide_eq_true_eq] at c57
    have hdig : 48 ≤ (l[i]).toNat ∧ (l[i]).toNat ≤ 57 := by omega
    have hlt := valF_lt (l.take i) 0 hd
    have hlt : valF 0 (l.take i) < 10 ^ 9 := Nat.lt_of_lt_of_le hlt (by
      rw [List.length_take]
      have := Nat.pow_le_pow_right (show 0 < 10 by omega) (show min i l.length ≤ 9 by omega)
      omega)
    have hnext : ((valF 0 (l.take (i + 1)) : Nat) : Int) = IntKind.wrap .i64 ((IntKind.wrap .i64 ((IntKind.wrap .i64 (((valF 0 (l.take i) : Nat) : Int) * 10)) + (IntKind.wrap .i64 ((l[i]).toNat : Int)))) - 48) := by
      rw [htake, valF_app]
      show ((valF 0 (l.take i) * 10 + ((l[i]).toNat - 48) : Nat) : Int) = _
      rw [i64_id (e := ((valF 0 (l.take i) : Nat) : Int) * 10) (by omega) (by omega), i64_id (e := ((l[i]).toNat : Int)) (by omega) (by omega), i64_id (e := ((valF 0 (l.take i) : Nat) : Int) * 10 + ((l[i]).toNat : Int)) (by omega) (by omega), i64_id (by omega) (by omega)]
      omega
    have hd' : Digs (l.take (i + 1)) := by
      rw [htake]
      intro c hc
      rcases List.mem_append.1 hc with hc | hc
      · exact hd c hc
      · simp only [List.mem_singleton] at hc; subst hc; exact hdig
    have go : (l.length = 1 ∨ l.head? ≠ some 48) → Ev (fun n => f6_broughamref01_Parse_L3 n s (IntKind.wrap .i64 ((IntKind.wrap .i64 ((IntKind.wrap .i64 (((valF 0 (l.take i) : Nat) : Int) * 10)) + (IntKind.wrap .i64 ((l[i]).toNat : Int)))) - 48)) (IntKind.wrap .i64 ((i : Int) + 1))) (fun w => (w = .inl (0, 10) ∧ ¬ (Canon l ∧ valF 0 l ≤ 2147483647)) ∨ (w = .inr (s, ((valF 0 l : Nat) : Int)) ∧ (l ≠ [] → Canon l))) := by
      intro hq
      rw [← hnext, i64_id (by omega) (by omega)]
      exact refparse_loop s l hs d (i + 1) (by omega) (by omega) hd' (fun _ => hq)
    refine Ev.guard (by omega) (Ev.ite (fun c => ?_) (fun c => Ev.guard (by omega) (go (.inr ?_))))
    · simp only [beq_iff_eq] at c
      have h0 : l[0]'(by omega) = 48 := UInt8.toNat_inj.1 (by rw [show (48 : UInt8).toNat = 48 from rfl]; omega)
      refine Ev.ite (fun c1 => Ev.some (.inl ⟨rfl, fun q => ?_⟩)) (fun c1 => Ev.guard (by omega) (go (.inl ?_)))
      · simp only [decide_eq_true_eq] at c1
        rcases q.1.2.2 with q | q
        · omega
        · exact q (by rw [hhead, h0])
      · simp only [decide_eq_true_eq] at c1; omega
    · simp only [beq_iff_eq] at c
      rw [hhead]
      intro e
      have e := Option.some.inj e
      apply c
      rw [e]; rfl
theorem refparse_is (s : ByteArray) : Ev (fun n => f6_broughamref01_Parse n s) (fun r => r = parseR s.data.toList) := by
  generalize hs : s.data.toList = l
  unfold f6_broughamref01_Parse
  have := refparse_loop s l hs l.length 0 (by omega) (by omega) (fun c hc => by simp at hc) (fun h => absurd h (by omega))
  refine Ev.bind this ?_
  rintro _ (⟨rfl, hn⟩ | ⟨rfl, hc⟩)
  · exact Ev.some (parseR_no hn).symm
  · dsimp only
    rw [str_dec, hs]
    refine Ev.ite (fun c => Ev.some ?_) (fun c => Ev.ite (fun c2 => Ev.some ?_) (fun c2 => Ev.some ?_))
    · simp only [decide_eq_true_eq] at c
      rw [parseR_no (fun q => q.1.2.1 c)]
    · simp only [decide_eq_true_eq] at c2
      rw [parseR_no (fun q => by have := q.2; omega)]
    · simp only [decide_eq_true_eq] at c c2
      rw [parseR_yes (hc c) (by omega)]
theorem alive_ev : Ev (fun n => f9_broughamlaw01_alive n) (fun r => r = true) := Ev.at 40 (fun m => by kernel_rfl) rfl
theorem text_ev (n : Int) (h0 : -9223372036854775808 ≤ n) (h1 : n < 9223372036854775808) : Ev (fun _ => f7_num_Text n) (fun r => r = textB n) := by
  unfold f7_num_Text
  exact Ev.pos ⟨h0, by omega⟩ (Ev.some rfl)
theorem parse_ev (s : ByteArray) (h : s.size ≤ 9223372036854775807) : Ev (fun _ => f5_num_Parse s) (fun r => r = parseR s.data.toList) := by
  unfold f5_num_Parse
  exact Ev.pos h (Ev.some rfl)
theorem NumTexts (n : Int) (h0 : K.ok (.int .i64) n) (s : ByteArray) (h1 : K.ok .str s) : ∃ k, f3_broughamlaw01_NumTexts k n s = some true := by
  have hn := ok_i64 h0
  apply Ev.true
  have hlen : (textB n).size ≤ 20 := by
    have := textF_len 20 n.toNat
    simp [textB, ByteArray.size, textL]; exact this
  unfold f3_broughamlaw01_NumTexts
  refine Ev.ite (fun _ => Ev.some rfl) fun c => ?_
  simp only [decide_eq_true_eq] at c
  refine Ev.bind (parse_ev s (by omega)) ?_
  rintro _ rfl
  refine Ev.bind (refparse_is s) ?_
  rintro _ rfl
  refine Ev.bind (text_ev n hn.1 hn.2) ?_
  rintro _ rfl
  refine Ev.bind (parse_ev (textB n) (by omega)) ?_
  rintro _ rfl
  refine Ev.bind (text_ev n hn.1 hn.2) ?_
  rintro _ rfl
  refine Ev.bind (textZ n hn.1 hn.2) ?_
  rintro _ rfl
  refine Ev.pos (str_refl _) (Ev.pos (by simp) (Ev.pos (by simp) ?_))
  have hback : 0 ≤ n → n < 2147483648 → parseR (textB n).data.toList = (n, 0) := by
    intro q1 q2
    have := parseR_text (n := n.toNat) (by omega)
    rw [show ((n.toNat : Nat) : Int) = n by omega] at this
    simpa [textB] using this
  have rest : Ev (fun k => if ((parseR s.data.toList).2 != 0) = true then (f9_broughamlaw01_alive k).bind fun r27_2 => some r27_2
      else (f7_num_Text (parseR s.data.toList).1).bind fun r27_2 =>
        if (r27_2.toList == s.toList) = true then (f9_broughamlaw01_alive k).bind fun r27_3 => some r27_3 else some false) (fun r => r = true) := by
    refine Ev.ite (fun _ => Ev.bind alive_ev (fun r hr => Ev.some hr)) (fun c2 => ?_)
    have hp : ∃ m : Nat, parseR s.data.toList = ((m : Int), 0) ∧ m ≤ 2147483647 ∧ textL m = s.data.toList := by
      by_cases q : Canon s.data.toList ∧ valF 0 s.data.toList ≤ 2147483647
      · exact ⟨_, parseR_yes q.1 q.2, q.2, canon_text 20 _ q.1 (by have := canon_len q.1 q.2; omega)⟩
      · rw [parseR_no q] at c2; exact absurd rfl c2
    obtain ⟨m, e1, e2, e3⟩ := hp
    rw [e1]
    refine Ev.bind (text_ev (m : Int) (by omega) (by omega)) ?_
    rintro _ rfl
    refine Ev.pos ?_ (Ev.bind alive_ev (fun r hr => Ev.some hr))
    rw [str_dec, decide_eq_true_eq]
    simpa [textB] using e3
  refine Ev.ite (fun c3 => rest) (fun c3 => Ev.ite (fun c4 => rest) (fun c4 => ?_))
  simp only [decide_eq_true_eq] at c3 c4
  rw [hback (by omega) (by omega)]
  exact Ev.pos (by simp) (Ev.pos (by simp) rest)
end Go.Proofs.YtakamchmiakicaaF01
