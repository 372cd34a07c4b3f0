/- What functions of this text leave, in plain numbers: proved for another text, and for this one by the same steps. Conditions: none. -/
import Derived.Test.YtakamchmiakicaaDoorF35
import Derived.Lib.IndexLaws
import Derived.Lib.IndexBytes
import Derived.Lib.CutLaws
namespace Go.Proofs.YtakamchmiakicaaDoorF35
open Go Zed Go.Proofs.YtakamchmiakicaaDoorLeaf
set_option maxRecDepth 100000
set_option linter.unusedVariables false
set_option linter.unusedSimpArgs false

/-- What digits tell. -/
def valF (a : Nat) : List UInt8 → Nat
  | [] => a
  | c :: r => valF (a * 10 + (c.toNat - 48)) r
def Digs (l : List UInt8) : Prop := ∀ c ∈ l, 48 ≤ c.toNat ∧ c.toNat ≤ 57
def Canon (l : List UInt8) : Prop := Digs l ∧ l ≠ [] ∧ (l.length = 1 ∨ l.head? ≠ some 48)
theorem valF_app (l r : List UInt8) : ∀ a, valF a (l ++ r) = valF (valF a l) r := by
  induction l with
  | nil => intro a; rfl
  | cons c l ih => intro a; exact ih _
theorem valF_ge (l : List UInt8) : ∀ a, a ≤ valF a l := by
  induction l with
  | nil => intro a; exact Nat.le_refl _
  | cons c l ih => intro a; exact Nat.le_trans (by omega) (ih _)
theorem valF_pow0 (a : Nat) : a * 10 ^ ([] : List UInt8).length ≤ valF a [] := by
  have h : a * 10 ^ 0 ≤ a := by omega
  exact h
theorem valF_pow (l : List UInt8) : ∀ a, a * 10 ^ l.length ≤ valF a l := by
  induction l with
  | nil => exact valF_pow0
  | cons c l ih =>
    intro a
    have h := ih (a * 10 + (c.toNat - 48))
    rw [List.length_cons, Nat.pow_succ, Nat.mul_comm (10 ^ l.length), ← Nat.mul_assoc]
    have h2 : a * 10 * 10 ^ l.length ≤ (a * 10 + (c.toNat - 48)) * 10 ^ l.length := Nat.mul_le_mul_right _ (Nat.le_add_right _ _)
    exact Nat.le_trans h2 h
theorem parseF_cons (c : UInt8) (r : List UInt8) (a : Nat) : parseF (c :: r) a = if 48 ≤ c.toNat ∧ c.toNat ≤ 57 ∧ a ≤ (2147483647 - (c.toNat - 48)) / 10 then parseF r (a * 10 + (c.toNat - 48)) else none := by rw [parseF]
theorem parseF_some (l : List UInt8) : ∀ (a n : Nat) (h : parseF l a = some n) (ha : a ≤ 2147483647), Digs l ∧ n = valF a l ∧ n ≤ 2147483647 := by
  induction l with
  | nil =>
    intro a n h ha
    have h : some a = some n := h
    simp only [Option.some.injEq] at h
    subst h
    exact ⟨fun c hc => (by cases hc), rfl, ha⟩
  | cons c r ih =>
    intro a n h ha
    rw [parseF_cons] at h
    split at h
    · rename_i hc
      obtain ⟨h1, h2, h3⟩ := ih _ n h (by omega)
      refine ⟨fun d hd => ?_, h2, h3⟩
      rcases List.mem_cons.1 hd with rfl | hd
      · exact ⟨hc.1, hc.2.1⟩
      · exact h1 d hd
    · cases h
theorem parseF_of (l : List UInt8) : ∀ (a : Nat) (hd : Digs l) (hv : valF a l ≤ 2147483647), parseF l a = some (valF a l) := by
  induction l with
  | nil => intro a _ _; rfl
  | cons c r ih =>
    intro a hd hv
    have hc := hd c List.mem_cons_self
    have hge := valF_ge r (a * 10 + (c.toNat - 48))
    have hv : valF (a * 10 + (c.toNat - 48)) r ≤ 2147483647 := hv
    rw [parseF_cons, if_pos ⟨hc.1, hc.2, by omega⟩]
    exact ih _ (fun d h => hd d (List.mem_cons_of_mem _ h)) hv
theorem dig_toNat (d : Nat) (h : d < 10) : ((48 + d).toUInt8).toNat = 48 + d := by simp; omega
theorem dig_eq (c : UInt8) (h : 48 ≤ c.toNat ∧ c.toNat ≤ 57) : (48 + (c.toNat - 48)).toUInt8 = c := by
  apply UInt8.toNat_inj.1
  rw [dig_toNat _ (by omega)]; omega
theorem canon_text : ∀ (k : Nat) (l : List UInt8), Canon l → l.length ≤ k → textF k (valF 0 l) = l
  | 0, l, h, hk => absurd (List.eq_nil_of_length_eq_zero (by omega)) h.2.1
  | k + 1, l, ⟨hd, hne, hh⟩, hk => by
    obtain ⟨r, c, rfl⟩ : ∃ r c, l = r ++ [c] := ⟨l.dropLast, l.getLast hne, (List.dropLast_concat_getLast hne).symm⟩
    have hc := hd c (by simp)
    have hdr : Digs r := fun d h => hd d (List.mem_append_left _ h)
    rw [valF_app]
    show textF (k + 1) (valF 0 r * 10 + (c.toNat - 48)) = _
    cases r with
    | nil =>
      show textF (k + 1) (0 * 10 + (c.toNat - 48)) = _
      rw [textF, if_pos (by omega), show 0 * 10 + (c.toNat - 48) = c.toNat - 48 by omega, dig_eq c hc]; rfl
    | cons d r =>
      have hd0 : d ≠ 48 := by
        rcases hh with hh | hh
        · simp at hh
        · intro e; subst e; simp at hh
      have hdd := hdr d List.mem_cons_self
      have hd1 : 49 ≤ d.toNat := by
        rcases Nat.lt_or_ge d.toNat 49 with q | q
        · exact absurd (UInt8.toNat_inj.1 (show d.toNat = (48 : UInt8).toNat by rw [show (48 : UInt8).toNat = 48 from rfl]; omega)) hd0
        · exact q
      have hv : 1 ≤ valF 0 (d :: r) := Nat.le_trans (by omega) (valF_ge r (0 * 10 + (d.toNat - 48)))
      rw [textF, if_neg (by omega), show (valF 0 (d :: r) * 10 + (c.toNat - 48)) / 10 = valF 0 (d :: r) by omega, show (valF 0 (d :: r) * 10 + (c.toNat - 48)) % 10 = c.toNat - 48 by omega, dig_eq c hc]
      rw [canon_text k (d :: r) ⟨hdr, by simp, .inr (by simp; exact hd0)⟩ (by simp at hk ⊢; omega)]
theorem text_canon : ∀ (k n : Nat), n < 10 ^ (k + 1) → Digs (textF (k + 1) n) ∧ textF (k + 1) n ≠ [] ∧ valF 0 (textF (k + 1) n) = n ∧ (textF (k + 1) n).length ≤ k + 1 ∧ (1 ≤ n → (textF (k + 1) n).head? ≠ some 48) ∧ (n < 10 → (textF (k + 1) n).length = 1)
  | k, n, hn => by
    by_cases h : n < 10
    · have hd := dig_toNat n h
      rw [textF, if_pos h]
      refine ⟨fun c hc => ?_, by simp, ?_, by simp, fun h1 => ?_, fun _ => rfl⟩
      · simp only [List.mem_singleton] at hc; subst hc; omega
      · show 0 * 10 + ((48 + n).toUInt8.toNat - 48) = n
        omega
      · intro e
        have e := Option.some.inj e
        have := congrArg UInt8.toNat e
        rw [hd] at this
        rw [show (48 : UInt8).toNat = 48 from rfl] at this
        omega
    · cases k with
      | zero => simp at hn; omega
      | succ k =>
        have hd := dig_toNat (n % 10) (by omega)
        obtain ⟨i1, i2, i3, i4, i5, i6⟩ := text_canon k (n / 10) (by rw [Nat.pow_succ] at hn; omega)
        have e : textF (k + 1 + 1) n = textF (k + 1) (n / 10) ++ [(48 + n % 10).toUInt8] := by
          show (if n < 10 then _ else _) = _
          rw [if_neg h]
        rw [e]
        refine ⟨fun c hc => ?_, by simp, ?_, by simp; omega, fun _ => ?_, fun q => absurd q h⟩
        · rcases List.mem_append.1 hc with hc | hc
          · exact i1 c hc
          · simp only [List.mem_singleton] at hc; subst hc; omega
        · rw [valF_app, i3]
          show n / 10 * 10 + ((48 + n % 10).toUInt8.toNat - 48) = n
          omega
        · obtain ⟨d, r, e⟩ := List.exists_cons_of_ne_nil i2
          have := i5 (by omega)
          rw [e] at this ⊢
          exact this
theorem textL_canon (n : Nat) (hn : n ≤ 9223372036854775807) : Canon (textL n) ∧ valF 0 (textL n) = n := by
  obtain ⟨i1, i2, i3, i4, i5, i6⟩ := text_canon 19 n (by omega)
  refine ⟨⟨i1, i2, ?_⟩, i3⟩
  by_cases h : n < 10
  · exact .inl (i6 h)
  · exact .inr (i5 (by omega))
theorem canon_len {l : List UInt8} (h : Canon l) (hv : valF 0 l ≤ 2147483647) : l.length ≤ 10 := by
  obtain ⟨hd, hne, hh⟩ := h
  cases l with
  | nil => exact absurd rfl hne
  | cons c r =>
    rcases hh with hh | hh
    · omega
    · have hc := hd c List.mem_cons_self
      have hc0 : c ≠ 48 := by intro e; subst e; simp at hh
      have hc1 : 49 ≤ c.toNat := by
        rcases Nat.lt_or_ge c.toNat 49 with q | q
        · exact absurd (UInt8.toNat_inj.1 (show c.toNat = (48 : UInt8).toNat by rw [show (48 : UInt8).toNat = 48 from rfl]; omega)) hc0
        · exact q
      have hp : (0 * 10 + (c.toNat - 48)) * 10 ^ r.length ≤ valF 0 (c :: r) := valF_pow r _
      have h1 : 10 ^ r.length ≤ 2147483647 := Nat.le_trans (by calc 10 ^ r.length = 1 * 10 ^ r.length := by omega
        _ ≤ (0 * 10 + (c.toNat - 48)) * 10 ^ r.length := Nat.mul_le_mul_right _ (by omega)) (Nat.le_trans hp hv)
      rcases Nat.lt_or_ge r.length 10 with q | q
      · rw [List.length_cons]; omega
      · have := Nat.pow_le_pow_right (show 0 < 10 by omega) q
        omega
/-- What Parse answers. -/
theorem parseR_yes {l : List UInt8} (h : Canon l) (hv : valF 0 l ≤ 2147483647) : parseR l = (((valF 0 l : Nat) : Int), 0) := by
  have ht : textL (valF 0 l) = l := canon_text 20 l h (by have := canon_len h hv; omega)
  rw [parseR, parseF_of l 0 h.1 hv]
  dsimp only
  rw [if_pos ht]
theorem parseR_no {l : List UInt8} (h : ¬ (Canon l ∧ valF 0 l ≤ 2147483647)) : parseR l = (0, 10) := by
  rw [parseR]
  cases hp : parseF l 0 with
  | none => rfl
  | some n =>
    obtain ⟨h1, h2, h3⟩ := parseF_some l 0 n hp (by omega)
    dsimp only
    rw [if_neg]
    intro e
    subst h2
    have := (textL_canon (valF 0 l) (by omega)).1
    rw [e] at this
    exact h ⟨this, h3⟩
theorem parseR_text {n : Nat} (hn : n ≤ 2147483647) : parseR (textL n) = ((n : Int), 0) := by
  obtain ⟨h1, h2⟩ := textL_canon n (by omega)
  rw [parseR_yes h1 (by omega), h2]
theorem str_dec (a b : ByteArray) : (a.toList == b.toList) = decide (a.data.toList = b.data.toList) := by
  rw [ByteArray.toList_eq, ByteArray.toList_eq, Bool.eq_iff_iff, beq_iff_eq, decide_eq_true_eq]
theorem size_len (s : ByteArray) : s.size = s.data.toList.length := Lib.size_eq s
theorem byte_at {s : ByteArray} {i : Nat} (h : i < s.data.toList.length) : byteAt s (i : Int) = ((s.data.toList[i]'h).toNat : Int) := by
  have h' : i < s.size := by rw [size_len]; exact h
  unfold byteAt
  rw [dif_pos (by rw [Int.toNat_natCast]; exact h')]
  simp only [Int.toNat_natCast]
  rfl
theorem valF_lt (l : List UInt8) : ∀ a, Digs l → valF a l < (a + 1) * 10 ^ l.length := by
  induction l with
  | nil =>
    intro a _
    have : valF a [] < (a + 1) * 10 ^ 0 := by
      rw [show valF a [] = a from rfl]; omega
    exact this
  | cons c l ih =>
    intro a hd
    have hc := hd c List.mem_cons_self
    have h := ih (a * 10 + (c.toNat - 48)) (fun d h => hd d (List.mem_cons_of_mem _ h))
    have h2 : (a * 10 + (c.toNat - 48) + 1) * 10 ^ l.length ≤ ((a + 1) * 10) * 10 ^ l.length := Nat.mul_le_mul_right _ (by omega)
    rw [List.length_cons, Nat.pow_succ, Nat.mul_comm (10 ^ l.length), ← Nat.mul_assoc]
    exact Nat.lt_of_lt_of_le h h2
theorem dig_ext : ∀ m : Fin 10, (⟨#[48, 49, 50, 51, 52, 53, 54, 55, 56, 57]⟩ : ByteArray).extract m.val (m.val + 1) = ⟨[(48 + m.val).toUInt8].toArray⟩ := by decide
theorem dig_ext' (m : Nat) (h : m < 10) : (⟨#[48, 49, 50, 51, 52, 53, 54, 55, 56, 57]⟩ : ByteArray).extract m (m + 1) = ⟨[(48 + m).toUInt8].toArray⟩ := dig_ext ⟨m, h⟩
theorem cut_dig (m : Nat) (h : m < 10) : cutOk (⟨#[48, 49, 50, 51, 52, 53, 54, 55, 56, 57]⟩ : ByteArray).size (some (m : Int)) (some (IntKind.wrap .i64 ((m : Int) + 1))) none := by
  rw [i64_id (by omega) (by omega)]
  have e : (⟨#[48, 49, 50, 51, 52, 53, 54, 55, 56, 57]⟩ : ByteArray).size = 10 := rfl
  rw [e]
  simp [cutOk]; omega
theorem app_arr (a b : List UInt8) : (⟨a.toArray⟩ : ByteArray) ++ ⟨b.toArray⟩ = ⟨(a ++ b).toArray⟩ := by
  apply ByteArray.ext
  simp
theorem textF_len : ∀ (k n : Nat), (textF k n).length ≤ k
  | 0, _ => Nat.le_refl _
  | k + 1, n => by
    rw [textF]; split
    · simp
    · have := textF_len k (n / 10); simp; omega
theorem refparse_loop (s : ByteArray) (l : List UInt8) (hs : s.data.toList = l) : ∀ (d i : Nat) (hi : i + d = l.length) (h10 : i ≤ 10) (hd : Digs (l.take i)) (hh : 0 < i → l.length = 1 ∨ l.head? ≠ some 48),
    Ev (fun n => f79_broughamref01_Parse_L3 n s ((valF 0 (l.take i) : Nat) : Int) (i : Int)) (fun w => (w = .inl (0, 10) ∧ ¬ (Canon l ∧ valF 0 l ≤ 2147483647)) ∨ (w = .inr (s, ((valF 0 l : Nat) : Int)) ∧ (l ≠ [] → Canon l)))
  | 0, i, hi, h10, hd, hh => by
    have hsz : s.size = l.length := by rw [size_len, hs]
    apply Ev.succ
    unfold f79_broughamref01_Parse_L3
    refine Ev.neg (by rw [hsz]; simp only [decide_eq_true_eq]; omega) (Ev.some (.inr ⟨?_, fun hne => ⟨?_, hne, hh ?_⟩⟩))
    · rw [List.take_of_length_le (by omega)]
    · rw [List.take_of_length_le (by omega)] at hd; exact hd
    · have := List.length_pos_iff.2 hne; omega
  | d + 1, i, hi, h10, hd, hh => by
    have hsz : s.size = l.length := by rw [size_len, hs]
    have hil : i < l.length := by omega
    have hb : byteAt s (i : Int) = ((l[i]).toNat : Int) := by subst hs; exact byte_at hil
    have hb0 : byteAt s 0 = ((l[0]'(by omega)).toNat : Int) := by subst hs; exact byte_at (i := 0) (by omega)
    have h256 := (l[i]).toNat_lt
    have hmem : l[i] ∈ l := List.getElem_mem hil
    have hhead : l.head? = some (l[0]'(by omega)) := by
      rw [List.head?_eq_getElem?]; exact List.getElem?_eq_getElem _
    have htake : l.take (i + 1) = l.take i ++ [l[i]] := (List.take_append_getElem hil).symm
    apply Ev.succ
    unfold f79_broughamref01_Parse_L3
    rw [hsz, hb, hb0]
    refine Ev.pos (by simp only [decide_eq_true_eq]; omega) ?_
    refine Ev.ite (fun c => Ev.some (.inl ⟨rfl, fun q => ?_⟩)) (fun c9 => ?_)
    · simp only [decide_eq_true_eq] at c
      have := canon_len q.1 q.2; omega
    simp only [decide_eq_true_eq] at c9
    refine Ev.guard (by omega) (Ev.ite (fun c => Ev.some (.inl ⟨rfl, fun q => ?_⟩)) (fun c48 => ?_))
    · simp only [decide_eq_true_eq] at c
      have := q.1.1 _ hmem; omega
    simp only [decide_eq_true_eq] at c48
    refine Ev.guard (by omega) (Ev.ite (fun c => Ev.some (.inl ⟨rfl, fun q => ?_⟩)) (fun c57 => ?_))
    · simp only [decide_eq_true_eq] at c
      have := q.1.1 _ hmem; omega
    simp only [decide_eq_true_eq] at c57
    have hdig : 48 ≤ (l[i]).toNat ∧ (l[i]).toNat ≤ 57 := by omega
    have hlt := valF_lt (l.take i) 0 hd
    have hlt : valF 0 (l.take i) < 10 ^ 9 := Nat.lt_of_lt_of_le hlt (by
      rw [List.length_take]
      have := Nat.pow_le_pow_right (show 0 < 10 by omega) (show min i l.length ≤ 9 by omega)
      omega)
    have hnext : ((valF 0 (l.take (i + 1)) : Nat) : Int) = IntKind.wrap .i64 ((IntKind.wrap .i64 ((IntKind.wrap .i64 (((valF 0 (l.take i) : Nat) : Int) * 10)) + (IntKind.wrap .i64 ((l[i]).toNat : Int)))) - 48) := by
      rw [htake, valF_app]
      show ((valF 0 (l.take i) * 10 + ((l[i]).toNat - 48) : Nat) : Int) = _
      rw [i64_id (e := ((valF 0 (l.take i) : Nat) : Int) * 10) (by omega) (by omega), i64_id (e := ((l[i]).toNat : Int)) (by omega) (by omega), i64_id (e := ((valF 0 (l.take i) : Nat) : Int) * 10 + ((l[i]).toNat : Int)) (by omega) (by omega), i64_id (by omega) (by omega)]
      omega
    have hd' : Digs (l.take (i + 1)) := by
      rw [htake]
      intro c hc
      rcases List.mem_append.1 hc with hc | hc
      · exact hd c hc
      · simp only [List.mem_singleton] at hc; subst hc; exact hdig
    have go : (l.length = 1 ∨ l.head? ≠ some 48) → Ev (fun n => f79_broughamref01_Parse_L3 n s (IntKind.wrap .i64 ((IntKind.wrap .i64 ((IntKind.wrap .i64 (((valF 0 (l.take i) : Nat) : Int) * 10)) + (IntKind.wrap .i64 ((l[i]).toNat : Int)))) - 48)) (IntKind.wrap .i64 ((i : Int) + 1))) (fun w => (w = .inl (0, 10) ∧ ¬ (Canon l ∧ valF 0 l ≤ 2147483647)) ∨ (w = .inr (s, ((valF 0 l : Nat) : Int)) ∧ (l ≠ [] → Canon l))) := by
      intro hq
      rw [← hnext, i64_id (by omega) (by omega)]
      exact refparse_loop s l hs d (i + 1) (by omega) (by omega) hd' (fun _ => hq)
    refine Ev.guard (by omega) (Ev.ite (fun c => ?_) (fun c => Ev.guard (by omega) (go (.inr ?_))))
    · simp only [beq_iff_eq] at c
      have h0 : l[0]'(by omega) = 48 := UInt8.toNat_inj.1 (by rw [show (48 : UInt8).toNat = 48 from rfl]; omega)
      refine Ev.ite (fun c1 => Ev.some (.inl ⟨rfl, fun q => ?_⟩)) (fun c1 => Ev.guard (by omega) (go (.inl ?_)))
      · simp only [decide_eq_true_eq] at c1
        rcases q.1.2.2 with q | q
        · omega
        · exact q (by rw [hhead, h0])
      · simp only [decide_eq_true_eq] at c1; omega
    · simp only [beq_iff_eq] at c
      rw [hhead]
      intro e
      have e := Option.some.inj e
      apply c
      rw [e]; rfl
theorem refparse_is (s : ByteArray) : Ev (fun n => f79_broughamref01_Parse n s) (fun r => r = parseR s.data.toList) := by
  generalize hs : s.data.toList = l
  unfold f79_broughamref01_Parse
  have := refparse_loop s l hs l.length 0 (by omega) (by omega) (fun c hc => by simp at hc) (fun h => absurd h (by omega))
  refine Ev.bind this ?_
  rintro _ (⟨rfl, hn⟩ | ⟨rfl, hc⟩)
  · exact Ev.some (parseR_no hn).symm
  · dsimp only
    rw [str_dec, hs]
    refine Ev.ite (fun c => Ev.some ?_) (fun c => Ev.ite (fun c2 => Ev.some ?_) (fun c2 => Ev.some ?_))
    · simp only [decide_eq_true_eq] at c
      rw [parseR_no (fun q => q.1.2.1 c)]
    · simp only [decide_eq_true_eq] at c2
      rw [parseR_no (fun q => by have := q.2; omega)]
    · simp only [decide_eq_true_eq] at c c2
      rw [parseR_yes (hc c) (by omega)]
theorem text_ev (n : Int) (h0 : -9223372036854775808 ≤ n) (h1 : n < 9223372036854775808) : Ev (fun _ => f52_num_Text n) (fun r => r = textB n) := by
  unfold f52_num_Text
  exact Ev.pos ⟨h0, by omega⟩ (Ev.some rfl)
theorem parse_ev (s : ByteArray) (h : s.size ≤ 9223372036854775807) : Ev (fun _ => f51_num_Parse s) (fun r => r = parseR s.data.toList) := by
  unfold f51_num_Parse
  exact Ev.pos h (Ev.some rfl)
abbrev dg : ByteArray := ⟨#[48, 49, 50, 51, 52, 53, 54, 55, 56, 57, 97, 98, 99, 100, 101, 102]⟩
theorem or_fin : ∀ h l : Fin 16, IntKind.wrap .u8 (bits .or .i64 (IntKind.wrap .i64 ((h.val : Int) * 2 ^ 4)) (l.val : Int)) = (h.val : Int) * 16 + l.val := by decide
theorem or_is {h l : Int} (h0 : 0 ≤ h ∧ h < 16) (l0 : 0 ≤ l ∧ l < 16) : IntKind.wrap .u8 (bits .or .i64 (IntKind.wrap .i64 (h * 2 ^ 4)) l) = h * 16 + l := by
  have := or_fin ⟨h.toNat, by omega⟩ ⟨l.toNat, by omega⟩
  simp only [show ((h.toNat : Nat) : Int) = h by omega, show ((l.toNat : Nat) : Int) = l by omega] at this
  exact this
theorem mul_is {h l : Int} (h0 : 0 ≤ h ∧ h < 16) (l0 : 0 ≤ l ∧ l < 16) : IntKind.wrap .u8 (IntKind.wrap .i64 ((IntKind.wrap .i64 (h * 16)) + l)) = h * 16 + l := by
  rw [i64_id (e := h * 16) (by omega) (by omega), i64_id (by omega) (by omega), u8_id (by omega) (by omega)]
theorem drop2 {l : List UInt8} {i : Nat} (h : i + 1 < l.length) : l.drop i = l[i] :: l[i + 1] :: l.drop (i + 2) := by
  rw [List.drop_eq_getElem_cons (by omega), List.drop_eq_getElem_cons h]
theorem dg_at (n : Nat) (h : n < 16) : byteAt dg (n : Int) = ((hexD n).toNat : Int) := by
  have h' : n < dg.size := h
  unfold byteAt
  rw [dif_pos (by rw [Int.toNat_natCast]; exact h')]
  simp only [Int.toNat_natCast]
  have := dig_is n h
  exact congrArg (fun x : UInt8 => (x.toNat : Int)) this
/-- A text's bytes. -/
def D (a : ByteArray) : List UInt8 := a.data.toList
theorem D_app (a b : ByteArray) : D (a ++ b) = D a ++ D b := by simp [D]
theorem D_lit (l : List UInt8) : D ⟨l.toArray⟩ = l := rfl
theorem sz_D (a : ByteArray) : a.size = (D a).length := size_len a
theorem sz_app (a b : ByteArray) : (a ++ b).size = a.size + b.size := by rw [sz_D, D_app, List.length_append, ← sz_D, ← sz_D]
theorem sz_lit (l : List UInt8) : (⟨l.toArray⟩ : ByteArray).size = l.length := by rw [sz_D, D_lit]
theorem D_eq {a b : ByteArray} (h : D a = D b) : (a.toList == b.toList) = true := by
  rw [str_dec, decide_eq_true_eq]; exact h
theorem ext_D {a b : ByteArray} (h : D a = D b) : a = b := by
  apply ByteArray.ext
  exact Array.toList_inj.1 h
def ne (x : ByteArray) : Bool := decide (D x ≠ [])
def lineB (l : List ByteArray) : ByteArray := YtakamchmiakicaaDoorLeaf.joinB (l.filter ne) ⟨[32].toArray⟩
theorem ne_of_sz {a : ByteArray} (h : 1 ≤ a.size) : D a ≠ [] := by
  intro e; rw [sz_D, e] at h; simp at h
/-- A word, if it is one. -/
def emit (w : List UInt8) : List (List UInt8) := if w = [] then [] else [w]
/-- The words between bytes c. -/
def ws (c : UInt8) (now : List UInt8) : List UInt8 → List (List UInt8)
  | [] => emit now
  | x :: r => if x = c then emit now ++ ws c [] r else ws c (now ++ [x]) r
/-- The words between blanks, ahead of a #. -/
def pc (now : List UInt8) : List UInt8 → List (List UInt8)
  | [] => emit now
  | x :: r => if x = 35 then emit now else if x = 32 then emit now ++ pc [] r else pc (now ++ [x]) r
def upto (l : List UInt8) : List UInt8 := l.takeWhile (· != 35)
theorem pc_ws : ∀ (l now : List UInt8), pc now l = ws 32 now (upto l)
  | [], now => rfl
  | x :: r, now => by
    rw [pc]
    by_cases h : x = 35
    · rw [if_pos h]; subst h; rfl
    · rw [if_neg h]
      have e : upto (x :: r) = x :: upto r := by
        unfold upto
        rw [List.takeWhile_cons, if_pos (by simpa using h)]
      rw [e, ws]
      split
      · rw [pc_ws r []]
      · rw [pc_ws r _]
theorem ws_no (c : UInt8) : ∀ (l now : List UInt8), c ∉ l → ws c now l = emit (now ++ l)
  | [], now, h => by rw [List.append_nil]; rfl
  | x :: r, now, h => by
    have hx : ¬ x = c := fun e => h (by rw [e]; exact List.mem_cons_self)
    rw [ws, if_neg hx, ws_no c r _ (fun q => h (List.mem_cons_of_mem _ q)), List.append_assoc]; rfl
theorem ws_at (c : UInt8) : ∀ (a r now : List UInt8), c ∉ a → ws c now (a ++ c :: r) = emit (now ++ a) ++ ws c [] r
  | [], r, now, h => by rw [List.nil_append, ws, if_pos rfl, List.append_nil]
  | x :: a, r, now, h => by
    have hx : ¬ x = c := fun e => h (by rw [e]; exact List.mem_cons_self)
    rw [List.cons_append, ws, if_neg hx, ws_at c a r _ (fun q => h (List.mem_cons_of_mem _ q)), List.append_assoc]; rfl
def fil (l : List (List UInt8)) : List (List UInt8) := l.filter fun w => decide (w ≠ [])
theorem fil_one (w : List UInt8) : fil [w] = emit w := by
  unfold fil emit
  by_cases h : w = [] <;> simp [h]
theorem fil_cons (w : List UInt8) (l : List (List UInt8)) : fil (w :: l) = emit w ++ fil l := by
  unfold fil emit
  by_cases h : w = [] <;> simp [h]
theorem byte_none {l : List UInt8} {c : UInt8} (h : Lib.indexByte l c = -1) : c ∉ l := by
  intro hm
  obtain ⟨k, hk⟩ := List.getElem?_of_mem hm
  exact Lib.indexByte_none h k hk
theorem byte_some {l : List UInt8} {c : UInt8} {o : Nat} (h : Lib.indexByte l c = o) : l = l.take o ++ c :: l.drop (o + 1) ∧ c ∉ l.take o ∧ o < l.length := by
  obtain ⟨h1, h2⟩ := Lib.indexByte_some h
  have hlt := (List.getElem?_eq_some_iff.1 h1).1
  have he := (List.getElem?_eq_some_iff.1 h1).2
  refine ⟨?_, fun hm => ?_, hlt⟩
  · conv => lhs; rw [← List.take_append_drop o l]
    rw [List.drop_eq_getElem_cons hlt, he]
  · obtain ⟨k, hk⟩ := List.getElem?_of_mem hm
    rw [List.getElem?_take] at hk
    split at hk
    · rename_i hko
      exact h2 k hko hk
    · cases hk
theorem byte_cases (l : List UInt8) (c : UInt8) : Lib.indexByte l c = -1 ∨ ∃ o : Nat, Lib.indexByte l c = o := by
  have := Lib.indexByte_ge l c
  by_cases h : Lib.indexByte l c = -1
  · exact .inl h
  · exact .inr ⟨(Lib.indexByte l c).toNat, by omega⟩
theorem split_fil (c : UInt8) : ∀ (k : Nat) (l : List UInt8), l.count c ≤ k → fil (Lib.splitK [c] 0 k l) = ws c [] l
  | 0, l, h => by
    have hn : c ∉ l := fun hm => by have := List.count_pos_iff.2 hm; omega
    rw [ws_no c l [] hn, List.nil_append]
    exact fil_one l
  | k + 1, l, h => by
    rw [Lib.splitK, Lib.index_one]
    rcases byte_cases l c with e | ⟨o, e⟩
    · rw [e, if_pos (by decide), fil_one, ws_no c l [] (byte_none e)]; rfl
    · obtain ⟨h1, h2, h3⟩ := byte_some e
      rw [e, if_neg (by rw [beq_iff_eq]; omega), Int.toNat_natCast, fil_cons, Nat.add_zero]
      have hc : l.count c = (l.drop (o + 1)).count c + 1 := by
        conv => lhs; rw [h1]
        rw [List.count_append, List.count_eq_zero.2 h2, List.count_cons_self]; omega
      show emit (l.take o) ++ fil (Lib.splitK [c] 0 k (l.drop (o + 1))) = _
      rw [split_fil c k _ (by omega)]
      conv => rhs; rw [h1]
      rw [ws_at c _ _ [] h2]; rfl
theorem cut_upto (l : List UInt8) : (Lib.cut l [35]).1 = upto l := by
  unfold Lib.cut
  rw [Lib.index_one]
  rcases byte_cases l 35 with e | ⟨o, e⟩
  · rw [e, if_neg (by decide)]
    have := byte_none e
    show l = l.takeWhile (· != 35)
    have hp : ∀ x ∈ l, (x != 35) = true := by
      intro x hx
      simp only [bne_iff_ne, ne_eq]
      intro e; subst e; exact this hx
    have q := List.takeWhile_append_of_pos (l₂ := ([] : List UInt8)) hp
    rw [List.append_nil] at q
    rw [q]; simp
  · obtain ⟨h1, h2, h3⟩ := byte_some e
    rw [e, if_pos (by omega), Int.toNat_natCast]
    show l.take o = l.takeWhile (· != 35)
    conv => rhs; rw [h1]
    rw [List.takeWhile_append_of_pos, List.takeWhile_cons, if_neg (by simp), List.append_nil]
    intro x hx
    simp only [bne_iff_ne, ne_eq]
    intro e; subst e; exact h2 hx
/-- A word that may stand between blanks. -/
def Word (w : List UInt8) : Prop := w ≠ [] ∧ (32 : UInt8) ∉ w ∧ (35 : UInt8) ∉ w
theorem emit_word {w : List UInt8} (h : (32 : UInt8) ∉ w ∧ (35 : UInt8) ∉ w) : ∀ x ∈ emit w, Word x := by
  intro x hx
  unfold emit at hx
  split at hx
  · cases hx
  · rename_i hne
    simp only [List.mem_singleton] at hx; subst hx; exact ⟨hne, h⟩
theorem pc_words : ∀ (l now : List UInt8) (h : (32 : UInt8) ∉ now ∧ (35 : UInt8) ∉ now), ∀ x ∈ pc now l, Word x
  | [], now, h => emit_word h
  | x :: r, now, h => by
    rw [pc]
    split
    · exact emit_word h
    · rename_i h35
      split
      · intro y hy
        rcases List.mem_append.1 hy with hy | hy
        · exact emit_word h y hy
        · exact pc_words r [] ⟨by simp, by simp⟩ y hy
      · rename_i h32
        refine pc_words r _ ⟨fun q => ?_, fun q => ?_⟩
        · rcases List.mem_append.1 q with q | q
          · exact h.1 q
          · simp only [List.mem_singleton] at q; exact h32 q.symm
        · rcases List.mem_append.1 q with q | q
          · exact h.2 q
          · simp only [List.mem_singleton] at q; exact h35 q.symm
theorem pc_len : ∀ (l now : List UInt8), ((pc now l).map List.length).sum ≤ now.length + l.length ∧ (pc now l).length ≤ 1 + l.length
  | [], now => by
    unfold pc emit
    split <;> simp
  | x :: r, now => by
    have he : ((emit now).map List.length).sum ≤ now.length ∧ (emit now).length ≤ 1 := by unfold emit; split <;> simp
    rw [pc]
    split
    · simp only [List.length_cons]; omega
    · split
      · have := pc_len r []
        rw [List.map_append, List.sum_append, List.length_append]
        simp only [List.length_cons, List.length_nil] at this ⊢; omega
      · have := pc_len r (now ++ [x])
        simp only [List.length_append, List.length_cons, List.length_nil] at this ⊢; omega
theorem pc_word : ∀ (w now t : List UInt8), (32 : UInt8) ∉ w → (35 : UInt8) ∉ w → pc now (w ++ t) = pc (now ++ w) t
  | [], now, t, _, _ => by simp
  | x :: w, now, t, h1, h2 => by
    have a : ¬ x = 35 := fun e => h2 (by rw [e]; exact List.mem_cons_self)
    have b : ¬ x = 32 := fun e => h1 (by rw [e]; exact List.mem_cons_self)
    rw [List.cons_append, pc, if_neg a, if_neg b, pc_word w _ t (fun q => h1 (List.mem_cons_of_mem _ q)) (fun q => h2 (List.mem_cons_of_mem _ q)), List.append_assoc]; rfl
theorem pc_tail : ∀ (r : List (List UInt8)) (x : List UInt8) (hx : Word x) (hr : ∀ w ∈ r, Word w), pc x (Lib.joinTail [32] r) = x :: r
  | [], x, hx, hr => by
    show emit x = [x]
    unfold emit; rw [if_neg hx.1]
  | y :: r, x, hx, hr => by
    have hy := hr y List.mem_cons_self
    have e : Lib.joinTail [32] (y :: r) = 32 :: (y ++ Lib.joinTail [32] r) := by simp [Lib.joinTail]
    rw [e, pc, if_neg (by decide), if_pos rfl, pc_word y [] _ hy.2.1 hy.2.2, List.nil_append, pc_tail r y hy (fun w hw => hr w (List.mem_cons_of_mem _ hw))]
    unfold emit; rw [if_neg hx.1]; rfl
theorem pc_join (p : List (List UInt8)) (h : ∀ w ∈ p, Word w) : pc [] (Lib.join p [32]) = p := by
  cases p with
  | nil => rfl
  | cons x r =>
    have hx := h x List.mem_cons_self
    rw [Lib.join_cons, pc_word x [] _ hx.2.1 hx.2.2, List.nil_append, pc_tail r x hx (fun w hw => h w (List.mem_cons_of_mem _ hw))]
/-- The line, a word more. -/
theorem joinTail_snoc (r : List (List UInt8)) (y : List UInt8) : Lib.joinTail [32] (r ++ [y]) = Lib.joinTail [32] r ++ 32 :: y := by simp [Lib.joinTail]
theorem join_snoc (r : List (List UInt8)) (y : List UInt8) : Lib.join (r ++ [y]) [32] = if r = [] then y else Lib.join r [32] ++ [32] ++ y := by
  cases r with
  | nil => rw [if_pos rfl]; simp [Lib.join_one]
  | cons x r => rw [if_neg (by simp), List.cons_append, Lib.join_cons, Lib.join_cons, joinTail_snoc]; simp
theorem join_nil_iff (r : List (List UInt8)) (h : ∀ w ∈ r, w ≠ []) : (Lib.join r [32] = []) ↔ r = [] := by
  cases r with
  | nil => exact ⟨fun _ => rfl, fun _ => rfl⟩
  | cons x r =>
    rw [Lib.join_cons]
    have := h x List.mem_cons_self
    simp [this]
theorem join_len (r : List (List UInt8)) : (Lib.join r [32]).length ≤ (r.map List.length).sum + r.length := by
  cases r with
  | nil => exact Nat.le_refl _
  | cons x r =>
    rw [Lib.join_length]
    show 1 * r.length + Lib.lens (x :: r) ≤ _
    have : Lib.lens (x :: r) = ((x :: r).map List.length).sum := rfl
    rw [this, List.length_cons]; omega
theorem ne_is (x : ByteArray) : (!(x.toList == (⟨#[]⟩ : ByteArray).toList)) = ne x := by
  rw [str_dec]
  unfold ne D
  by_cases h : x.data.toList = []
  · rw [decide_eq_true (by simpa using h), decide_eq_false (by simpa using h)]; rfl
  · rw [decide_eq_false (by simpa using h), decide_eq_true (by simpa using h)]; rfl
theorem fil_map (l : List ByteArray) : (l.filter ne).map D = fil (l.map D) := by
  unfold fil
  rw [List.filter_map]; rfl
theorem line_Dj (l : List ByteArray) : D (lineB l) = Lib.join (fil (l.map D)) [32] := by
  rw [← fil_map]; rfl
theorem pieces_loop (l : List ByteArray) (hl : l.length ≤ 100000) : ∀ (d i : Nat) (hi : i + d = l.length) (out : List ByteArray) (ho : out.length ≤ i),
    Ev (fun n => f15_num_Pieces_L4 n out l ((l.length : Nat) : Int) (i : Int)) (fun w => w = out ++ (l.drop i).filter ne)
  | 0, i, hi, out, ho => by
    apply Ev.succ
    unfold f15_num_Pieces_L4
    refine Ev.neg (by simp only [decide_eq_true_eq]; omega) (Ev.some ?_)
    rw [List.drop_eq_nil_of_le (by omega)]; simp
  | d + 1, i, hi, out, ho => by
    have e1 : l.drop i = l.getD i ByteArray.empty :: l.drop (i + 1) := drop_cons (by omega) _
    apply Ev.succ
    unfold f15_num_Pieces_L4
    rw [Int.toNat_natCast, i64_id (e := (i : Int) + 1) (by omega) (by omega), e1, List.filter_cons, ne_is]
    generalize l.getD i ByteArray.empty = x
    refine Ev.pos (by simp only [decide_eq_true_eq]; omega) (Ev.guard (by omega) (Ev.ite (fun c => Ev.guard (by simp only [List.length_singleton, maxLen]; omega) ?_) (fun c => ?_)))
    · refine (pieces_loop l hl d (i + 1) (by omega) _ (by simp; omega)).mono ?_
      rintro _ rfl
      rw [if_pos c]; simp
    · refine (pieces_loop l hl d (i + 1) (by omega) _ (by omega)).mono ?_
      rintro _ rfl
      rw [if_neg c]
theorem countB_cut (s : ByteArray) (c : UInt8) : Lib.countB s ⟨#[c]⟩ = (D s).count c := by
  show Lib.count s.data.toList [c] = _
  rw [Lib.count_one]; rfl
theorem split_D (s : ByteArray) (c : UInt8) : fil ((splitS s ⟨#[c]⟩).map D) = ws c [] (D s) := by
  unfold splitS
  have e : (Lib.splitB ⟨#[c]⟩ 0 (Lib.countB s ⟨#[c]⟩) s).map D = Lib.splitK [c] 0 (Lib.countB s ⟨#[c]⟩) (D s) := Lib.splitB_data ⟨#[c]⟩ 0 _ s
  rw [e, split_fil c _ (D s) (by rw [countB_cut]; exact Nat.le_refl _)]
theorem split_len (s : ByteArray) (c : UInt8) : (splitS s ⟨#[c]⟩).length ≤ s.size + 1 := by
  have h1 := Lib.splitB_all ⟨#[c]⟩ (Nat.le_refl 1) 0 _ s rfl
  have h2 := Lib.countB_le ⟨#[c]⟩ (Nat.le_refl 1) s.size s (Nat.le_refl _)
  show (Lib.splitB ⟨#[c]⟩ 0 (Lib.countB s ⟨#[c]⟩) s).length ≤ _
  rw [h1]; omega
theorem pieces_ev (s : ByteArray) (hs : s.size ≤ 90000) : Ev (fun n => f15_num_Pieces n s) (fun r => r.map D = pc [] (D s)) := by
  unfold f15_num_Pieces
  refine Ev.bind (P := fun r => r = cutB s ⟨#[35]⟩) ?_ ?_
  · unfold f49_strings_Cut
    exact Ev.pos ⟨rfl, by omega⟩ (Ev.some rfl)
  rintro _ rfl
  have hD : D (cutB s ⟨#[35]⟩).1 = upto (D s) := cut_upto (D s)
  have hsz : (cutB s ⟨#[35]⟩).1.size ≤ 90000 := by
    rw [sz_D, hD]
    have : (upto (D s)).length ≤ (D s).length := (List.takeWhile_sublist _).length_le
    rw [sz_D] at hs; omega
  refine Ev.bind (P := fun r => r = splitS (cutB s ⟨#[35]⟩).1 ⟨#[32]⟩) ?_ ?_
  · unfold f45_strings_Split
    exact Ev.pos ⟨rfl, by omega⟩ (Ev.some rfl)
  rintro _ rfl
  have hlen := split_len (cutB s ⟨#[35]⟩).1 32
  generalize hq : splitS (cutB s ⟨#[35]⟩).1 ⟨#[32]⟩ = q at hlen
  refine Ev.bind (pieces_loop q (by omega) q.length 0 (by omega) [] (by simp)) ?_
  rintro _ rfl
  refine Ev.some ?_
  rw [List.drop_zero, List.nil_append, fil_map, ← hq, split_D, hD, pc_ws]
theorem refpieces_loop (s : ByteArray) (hs : s.size ≤ 90000) : ∀ (d i : Nat) (hi : i + d = s.size) (out : List ByteArray) (now : ByteArray) (ho : out.length ≤ i) (hn : now.size ≤ i),
    Ev (fun n => f19_broughamref01_Pieces_L4 n s out now (i : Int)) (fun w => w.1.map D ++ emit (D w.2) = out.map D ++ pc (D now) ((D s).drop i) ∧ w.1.length ≤ 90000)
  | 0, i, hi, out, now, ho, hn => by
    apply Ev.succ
    unfold f19_broughamref01_Pieces_L4
    refine Ev.neg (by simp only [decide_eq_true_eq]; omega) (Ev.some ⟨?_, by show out.length ≤ _; omega⟩)
    rw [List.drop_eq_nil_of_le (by rw [← sz_D]; omega)]; rfl
  | d + 1, i, hi, out, now, ho, hn => by
    have hil : i < (D s).length := by rw [← sz_D]; omega
    have hb : byteAt s (i : Int) = (((D s)[i]'hil).toNat : Int) := byte_at hil
    have hdrop : (D s).drop i = (D s)[i] :: (D s).drop (i + 1) := List.drop_eq_getElem_cons hil
    have hext : D (s.extract i (i + 1)) = [(D s)[i]] := by
      show (s.extract i (i + 1)).data.toList = _
      rw [Lib.extract_data]
      show ((D s).drop i).take (i + 1 - i) = _
      rw [hdrop, show i + 1 - i = 1 by omega]; rfl
    apply Ev.succ
    unfold f19_broughamref01_Pieces_L4
    rw [i64_id (e := (i : Int) + 1) (by omega) (by omega), hb, show ((i : Int) + 1).toNat = i + 1 by omega, Int.toNat_natCast, ne_is, hdrop, pc]
    have go : ∀ (out' : List ByteArray) (now' : ByteArray), out'.length ≤ i + 1 → now'.size ≤ i + 1 → Ev (fun n => f19_broughamref01_Pieces_L4 n s out' now' ((i : Int) + 1)) (fun w => w.1.map D ++ emit (D w.2) = out'.map D ++ pc (D now') ((D s).drop (i + 1)) ∧ w.1.length ≤ 90000) :=
      fun out' now' h1 h2 => refpieces_loop s hs d (i + 1) (by omega) out' now' h1 h2
    generalize (D s)[i] = x at hb hext
    have inj : ∀ y : UInt8, (x.toNat : Int) = (y.toNat : Int) → x = y := fun y h => UInt8.toNat_inj.1 (by omega)
    refine Ev.pos (by simp only [decide_eq_true_eq]; omega) (Ev.guard (by omega) (Ev.ite (fun c => Ev.guard (by omega) ?_) (fun c => Ev.some ?_)))
    · simp only [bne_iff_ne, ne_eq] at c
      rw [if_neg (fun e => c (by rw [e]; rfl))]
      refine Ev.ite (fun c2 => ?_) (fun c2 => ?_)
      · simp only [bne_iff_ne, ne_eq] at c2
        rw [if_neg (fun e => c2 (by rw [e]; rfl))]
        have hez : (s.extract i (i + 1)).size = 1 := by rw [sz_D, hext]; rfl
        refine Ev.guard (by simp [cutOk]; omega) (Ev.guard (by rw [hez]; omega) ?_)
        refine (go out (now ++ s.extract i (i + 1)) (by omega) (by rw [sz_app, hez]; omega)).mono ?_
        rw [D_app, hext]
        exact fun w hw => hw
      · simp only [bne_iff_ne, ne_eq, Decidable.not_not] at c2
        rw [if_pos (inj 32 c2)]
        refine Ev.ite (fun c3 => Ev.guard (by simp only [List.length_singleton, maxLen]; omega) ?_) (fun c3 => ?_)
        · refine (go (out ++ [now]) ⟨#[]⟩ (by simp; omega) (by show 0 ≤ _; omega)).mono ?_
          have he : emit (D now) = [D now] := by unfold emit; rw [if_neg (by simpa [ne] using c3)]
          rw [he, List.map_append, List.append_assoc]
          exact fun w hw => hw
        · refine (go out ⟨#[]⟩ (by omega) (by show 0 ≤ _; omega)).mono ?_
          have he : emit (D now) = [] := by unfold emit; rw [if_pos (by simpa [ne] using c3)]
          rw [he, List.nil_append]
          exact fun w hw => hw
    · simp only [bne_iff_ne, ne_eq, Decidable.not_not] at c
      rw [if_pos (inj 35 c)]
      exact ⟨rfl, by show out.length ≤ _; omega⟩
theorem refpieces_ev (s : ByteArray) (hs : s.size ≤ 90000) : Ev (fun n => f19_broughamref01_Pieces n s) (fun r => r.map D = pc [] (D s)) := by
  unfold f19_broughamref01_Pieces
  refine Ev.bind (refpieces_loop s hs s.size 0 (by omega) [] ⟨#[]⟩ (by simp) (Nat.zero_le _)) ?_
  rintro w ⟨hw, hwl⟩
  rw [ne_is]
  have hw : w.1.map D ++ emit (D w.2) = pc [] (D s) := hw
  refine Ev.ite (fun c => Ev.guard (by simp only [List.length_singleton, maxLen]; omega) (Ev.some ?_)) (fun c => Ev.some ?_)
  · have he : emit (D w.2) = [D w.2] := by unfold emit; rw [if_neg (by simpa [ne] using c)]
    rw [← hw, he, List.map_append]; rfl
  · have he : emit (D w.2) = [] := by unfold emit; rw [if_pos (by simpa [ne] using c)]
    rw [← hw, he, List.append_nil]
def unw (l : List UInt8) : ByteArray := ⟨l.toArray⟩
theorem unw_D (a : ByteArray) : unw (D a) = a := ext_D rfl
def pieceB (s : ByteArray) : List ByteArray := (pc [] (D s)).map unw
theorem map_unw {r : List ByteArray} {x : List (List UInt8)} (h : r.map D = x) : r = x.map unw := by
  subst h
  rw [List.map_map]
  conv => lhs; rw [← List.map_id r]
  exact List.map_congr_left fun a _ => (unw_D a).symm
theorem pieceB_D (s : ByteArray) : (pieceB s).map D = pc [] (D s) := by
  unfold pieceB
  rw [List.map_map]
  conv => rhs; rw [← List.map_id (pc [] (D s))]
  exact List.map_congr_left fun a _ => rfl
theorem pieceB_ev (s : ByteArray) (hs : s.size ≤ 90000) : Ev (fun n => f15_num_Pieces n s) (fun r => r = pieceB s) := (pieces_ev s hs).mono fun r h => map_unw h
theorem pieceB_ref (s : ByteArray) (hs : s.size ≤ 90000) : Ev (fun n => f19_broughamref01_Pieces n s) (fun r => r = pieceB s) := (refpieces_ev s hs).mono fun r h => map_unw h
theorem mem_sum {l : List (List UInt8)} {x : List UInt8} (h : x ∈ l) : x.length ≤ (l.map List.length).sum := by
  induction l with
  | nil => cases h
  | cons y l ih =>
    rw [List.map_cons, List.sum_cons]
    rcases List.mem_cons.1 h with rfl | h
    · omega
    · have := ih h; omega
theorem pieceB_sz {s x : ByteArray} (h : x ∈ pieceB s) : x.size ≤ s.size := by
  have h1 : D x ∈ pc [] (D s) := by rw [← pieceB_D]; exact List.mem_map_of_mem h
  have h2 := mem_sum h1
  have h3 := (pc_len (D s) []).1
  rw [sz_D, sz_D s]
  simp only [List.length_nil] at h3
  omega
theorem pieceB_len (s : ByteArray) : (pieceB s).length ≤ 1 + s.size := by
  have h3 := (pc_len (D s) []).2
  rw [← pieceB_D, List.length_map] at h3
  rw [sz_D]; exact h3
/-! A step's parts. -/
def Alf (l : List UInt8) : Prop := ∀ c ∈ l, c = 104 ∨ c = 110 ∨ c = 112 ∨ c = 119 ∨ c = 107 ∨ c = 98
theorem ext_D_is (s : ByteArray) (a b : Nat) (h : a ≤ b) : D (s.extract a b) = ((D s).drop a).take (b - a) := by
  show (s.extract a b).data.toList = _
  rw [Lib.extract_data]; rfl
def chs : List UInt8 := [104, 110, 112, 119, 107]
theorem chs_mem {i : Nat} (h : i < 5) : chs.getD i 0 = 104 ∨ chs.getD i 0 = 110 ∨ chs.getD i 0 = 112 ∨ chs.getD i 0 = 119 ∨ chs.getD i 0 = 107 := by
  match i with
  | 0 => exact .inl rfl
  | 1 => exact .inr (.inl rfl)
  | 2 => exact .inr (.inr (.inl rfl))
  | 3 => exact .inr (.inr (.inr (.inl rfl)))
  | 4 => exact .inr (.inr (.inr (.inr rfl)))
  | i + 5 => omega
theorem chs_int {i : Nat} (h : i < 5) : ([104, 110, 112, 119, 107] : List Int).getD i 0 = ((chs.getD i 0).toNat : Int) := by
  match i with
  | 0 => rfl
  | 1 => rfl
  | 2 => rfl
  | 3 => rfl
  | 4 => rfl
  | i + 5 => omega
theorem chs_byte {i : Nat} (h : i < 5) : byteAt (⟨#[104, 110, 112, 119, 107]⟩ : ByteArray) (i : Int) = ((chs.getD i 0).toNat : Int) := by
  match i with
  | 0 => rfl
  | 1 => rfl
  | 2 => rfl
  | 3 => rfl
  | 4 => rfl
  | i + 5 => omega
theorem hex_ne (b : List Int) : D (hexB b) ≠ [] := by
  unfold hexB
  split
  · decide
  · rename_i h
    intro e
    have e2 : hexL (b.map fun x => x.toNat.toUInt8) = [] := e
    have hlen := hexL_len (b.map fun x => x.toNat.toUInt8)
    rw [e2, List.length_map, List.length_nil] at hlen
    exact h (List.eq_nil_of_length_eq_zero (by omega))
theorem hex_sz (b : List Int) : (D (hexB b)).length ≤ 2 * b.length + 1 := by
  unfold hexB
  split
  · show 1 ≤ _; omega
  · have hlen := hexL_len (b.map fun x => x.toNat.toUInt8)
    rw [List.length_map] at hlen
    show (hexL _).length ≤ _
    omega
theorem sum_le {l : List (List UInt8)} {m : Nat} (h : ∀ x ∈ l, x.length ≤ m) : (l.map List.length).sum ≤ l.length * m := by
  induction l with
  | nil => exact Nat.zero_le _
  | cons y l ih =>
    have h1 := ih (fun x hx => h x (List.mem_cons_of_mem _ hx))
    have h2 := h y List.mem_cons_self
    rw [List.map_cons, List.sum_cons, List.length_cons, Nat.succ_mul]; omega
theorem join_tail_cons (x : List UInt8) (r : List (List UInt8)) : Lib.joinTail [32] (x :: r) = 32 :: (x ++ Lib.joinTail [32] r) := by simp [Lib.joinTail]
end Go.Proofs.YtakamchmiakicaaDoorF35
