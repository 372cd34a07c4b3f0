/- What functions of this text leave, in plain numbers: proved for another text, and for this one by the same steps. Conditions: none. -/
import Derived.Test.YtakamchmiakicaaDoorF25b
import Derived.Lib.IndexLaws
import Derived.Lib.IndexBytes
import Derived.Lib.CutLaws
namespace Go.Proofs.YtakamchmiakicaaDoorF25b
open Go Zed Go.Proofs.YtakamchmiakicaaDoorLeaf Go.Proofs.YtakamchmiakicaaDoorSText Go.Proofs.YtakamchmiakicaaDoorF25a
set_option maxRecDepth 100000
set_option linter.unusedVariables false
set_option linter.unusedSimpArgs false

/-- What digits tell. -/
def valF (a : Nat) : List UInt8 → Nat
  | [] => a
  | c :: r => valF (a * 10 + (c.toNat - 48)) r
def Digs (l : List UInt8) : Prop := ∀ c ∈ l, 48 ≤ c.toNat ∧ c.toNat ≤ 57
def Canon (l : List UInt8) : Prop := Digs l ∧ l ≠ [] ∧ (l.length = 1 ∨ l.head? ≠ some 48)
theorem valF_app (l r : List UInt8) : ∀ a, valF a (l ++ r) = valF (valF a l) r := by
  induction l with
  | nil => intro a; rfl
  | cons c l ih => intro a; exact ih _
theorem valF_ge (l : List UInt8) : ∀ a, a ≤ valF a l := by
  induction l with
  | nil => intro a; exact Nat.le_refl _
  | cons c l ih => intro a; exact Nat.le_trans (by omega) (ih _)
theorem valF_pow0 (a : Nat) : a * 10 ^ ([] : List UInt8).length ≤ valF a [] := by
  have h : a * 10 ^ 0 ≤ a := by omega
  exact h
theorem valF_pow (l : List UInt8) : ∀ a, a * 10 ^ l.length ≤ valF a l := by
  induction l with
  | nil => exact valF_pow0
  | cons c l ih =>
    intro a
    have h := ih (a * 10 + (c.toNat - 48))
    rw [List.length_cons, Nat.pow_succ, Nat.mul_comm (10 ^ l.length), ← Nat.mul_assoc]
    have h2 : a * 10 * 10 ^ l.length ≤ (a * 10 + (c.toNat - 48)) * 10 ^ l.length := Nat.mul_le_mul_right _ (Nat.le_add_right _ _)
    exact Nat.le_trans h2 h
theorem parseF_cons (c : UInt8) (r : List UInt8) (a : Nat) : parseF (c :: r) a = if 48 ≤ c.toNat ∧ c.toNat ≤ 57 ∧ a ≤ (2147483647 - (c.toNat - 48)) / 10 then parseF r (a * 10 + (c.toNat - 48)) else none := by rw [parseF]
theorem parseF_some (l : List UInt8) : ∀ (a n : Nat) (h : parseF l a = some n) (ha : a ≤ 2147483647), Digs l ∧ n = valF a l ∧ n ≤ 2147483647 := by
  induction l with
  | nil =>
    intro a n h ha
    have h : some a = some n := h
    simp only [Option.some.injEq] at h
    subst h
    exact ⟨fun c hc => (by cases hc), rfl, ha⟩
  | cons c r ih =>
    intro a n h ha
    rw [parseF_cons] at h
    split at h
    · rename_i hc
      obtain ⟨h1, h2, h3⟩ := ih _ n h (by omega)
      refine ⟨fun d hd => ?_, h2, h3⟩
      rcases List.mem_cons.1 hd with rfl | hd
      · exact ⟨hc.1, hc.2.1⟩
      · exact h1 d hd
    · cases h
theorem parseF_of (l : List UInt8) : ∀ (a : Nat) (hd : Digs l) (hv : valF a l ≤ 2147483647), parseF l a = some (valF a l) := by
  induction l with
  | nil => intro a _ _; rfl
  | cons c r ih =>
    intro a hd hv
    have hc := hd c List.mem_cons_self
    have hge := valF_ge r (a * 10 + (c.toNat - 48))
    have hv : valF (a * 10 + (c.toNat - 48)) r ≤ 2147483647 := hv
    rw [parseF_cons, if_pos ⟨hc.1, hc.2, by omega⟩]
    exact ih _ (fun d h => hd d (List.mem_cons_of_mem _ h)) hv
theorem dig_toNat (d : Nat) (h : d < 10) : ((48 + d).toUInt8).toNat = 48 + d := by simp; omega
theorem dig_eq (c : UInt8) (h : 48 ≤ c.toNat ∧ c.toNat ≤ 57) : (48 + (c.toNat - 48)).toUInt8 = c := by
  apply UInt8.toNat_inj.1
  rw [dig_toNat _ (by omega)]; omega
theorem canon_text : ∀ (k : Nat) (l : List UInt8), Canon l → l.length ≤ k → textF k (valF 0 l) = l
  | 0, l, h, hk => absurd (List.eq_nil_of_length_eq_zero (by omega)) h.2.1
  | k + 1, l, ⟨hd, hne, hh⟩, hk => by
    obtain ⟨r, c, rfl⟩ : ∃ r c, l = r ++ [c] := ⟨l.dropLast, l.getLast hne, (List.dropLast_concat_getLast hne).symm⟩
    have hc := hd c (by simp)
    have hdr : Digs r := fun d h => hd d (List.mem_append_left _ h)
    rw [valF_app]
    show textF (k + 1) (valF 0 r * 10 + (c.toNat - 48)) = _
    cases r with
    | nil =>
      show textF (k + 1) (0 * 10 + (c.toNat - 48)) = _
      rw [textF, if_pos (by omega), show 0 * 10 + (c.toNat - 48) = c.toNat - 48 by omega, dig_eq c hc]; rfl
    | cons d r =>
      have hd0 : d ≠ 48 := by
        rcases hh with hh | hh
        · simp at hh
        · intro e; subst e; simp at hh
      have hdd := hdr d List.mem_cons_self
      have hd1 : 49 ≤ d.toNat := by
        rcases Nat.lt_or_ge d.toNat 49 with q | q
        · exact absurd (UInt8.toNat_inj.1 (show d.toNat = (48 : UInt8).toNat by rw [show (48 : UInt8).toNat = 48 from rfl]; omega)) hd0
        · exact q
      have hv : 1 ≤ valF 0 (d :: r) := Nat.le_trans (by omega) (valF_ge r (0 * 10 + (d.toNat - 48)))
      rw [textF, if_neg (by omega), show (valF 0 (d :: r) * 10 + (c.toNat - 48)) / 10 = valF 0 (d :: r) by omega, show (valF 0 (d :: r) * 10 + (c.toNat - 48)) % 10 = c.toNat - 48 by omega, dig_eq c hc]
      rw [canon_text k (d :: r) ⟨hdr, by simp, .inr (by simp; exact hd0)⟩ (by simp at hk ⊢; omega)]
theorem text_canon : ∀ (k n : Nat), n < 10 ^ (k + 1) → Digs (textF (k + 1) n) ∧ textF (k + 1) n ≠ [] ∧ valF 0 (textF (k + 1) n) = n ∧ (textF (k + 1) n).length ≤ k + 1 ∧ (1 ≤ n → (textF (k + 1) n).head? ≠ some 48) ∧ (n < 10 → (textF (k + 1) n).length = 1)
  | k, n, hn => by
    by_cases h : n < 10
    · have hd := dig_toNat n h
      rw [textF, if_pos h]
      refine ⟨fun c hc => ?_, by simp, ?_, by simp, fun h1 => ?_, fun _ => rfl⟩
      · simp only [List.mem_singleton] at hc; subst hc; omega
      · show 0 * 10 + ((48 + n).toUInt8.toNat - 48) = n
        omega
      · intro e
        have e := Option.some.inj e
        have := congrArg UInt8.toNat e
        rw [hd] at this
        rw [show (48 : UInt8).toNat = 48 from rfl] at this
        omega
    · cases k with
      | zero => simp at hn; omega
      | succ k =>
        have hd := dig_toNat (n % 10) (by omega)
        obtain ⟨i1, i2, i3, i4, i5, i6⟩ := text_canon k (n / 10) (by rw [Nat.pow_succ] at hn; omega)
        have e : textF (k + 1 + 1) n = textF (k + 1) (n / 10) ++ [(48 + n % 10).toUInt8] := by
          show (if n < 10 then _ else _) = _
          rw [if_neg h]
        rw [e]
        refine ⟨fun c hc => ?_, by simp, ?_, by simp; omega, fun _ => ?_, fun q => absurd q h⟩
        · rcases List.mem_append.1 hc with hc | hc
          · exact i1 c hc
          · simp only [List.mem_singleton] at hc; subst hc; omega
        · rw [valF_app, i3]
          show n / 10 * 10 + ((48 + n % 10).toUInt8.toNat - 48) = n
          omega
        · obtain ⟨d, r, e⟩ := List.exists_cons_of_ne_nil i2
          have := i5 (by omega)
          rw [e] at this ⊢
          exact this
theorem textL_canon (n : Nat) (hn : n ≤ 9223372036854775807) : Canon (textL n) ∧ valF 0 (textL n) = n := by
  obtain ⟨i1, i2, i3, i4, i5, i6⟩ := text_canon 19 n (by omega)
  refine ⟨⟨i1, i2, ?_⟩, i3⟩
  by_cases h : n < 10
  · exact .inl (i6 h)
  · exact .inr (i5 (by omega))
theorem canon_len {l : List UInt8} (h : Canon l) (hv : valF 0 l ≤ 2147483647) : l.length ≤ 10 := by
  obtain ⟨hd, hne, hh⟩ := h
  cases l with
  | nil => exact absurd rfl hne
  | cons c r =>
    rcases hh with hh | hh
    · omega
    · have hc := hd c List.mem_cons_self
      have hc0 : c ≠ 48 := by intro e; subst e; simp at hh
      have hc1 : 49 ≤ c.toNat := by
        rcases Nat.lt_or_ge c.toNat 49 with q | q
        · exact absurd (UInt8.toNat_inj.1 (show c.toNat = (48 : UInt8).toNat by rw [show (48 : UInt8).toNat = 48 from rfl]; omega)) hc0
        · exact q
      have hp : (0 * 10 + (c.toNat - 48)) * 10 ^ r.length ≤ valF 0 (c :: r) := valF_pow r _
      have h1 : 10 ^ r.length ≤ 2147483647 := Nat.le_trans (by calc 10 ^ r.length = 1 * 10 ^ r.length := by omega
        _ ≤ (0 * 10 + (c.toNat - 48)) * 10 ^ r.length := Nat.mul_le_mul_right _ (by omega)) (Nat.le_trans hp hv)
      rcases Nat.lt_or_ge r.length 10 with q | q
      · rw [List.length_cons]; omega
      · have := Nat.pow_le_pow_right (show 0 < 10 by omega) q
        omega
/-- What Parse answers. -/
theorem parseR_yes {l : List UInt8} (h : Canon l) (hv : valF 0 l ≤ 2147483647) : parseR l = (((valF 0 l : Nat) : Int), 0) := by
  have ht : textL (valF 0 l) = l := canon_text 20 l h (by have := canon_len h hv; omega)
  rw [parseR, parseF_of l 0 h.1 hv]
  dsimp only
  rw [if_pos ht]
theorem parseR_no {l : List UInt8} (h : ¬ (Canon l ∧ valF 0 l ≤ 2147483647)) : parseR l = (0, 10) := by
  rw [parseR]
  cases hp : parseF l 0 with
  | none => rfl
  | some n =>
    obtain ⟨h1, h2, h3⟩ := parseF_some l 0 n hp (by omega)
    dsimp only
    rw [if_neg]
    intro e
    subst h2
    have := (textL_canon (valF 0 l) (by omega)).1
    rw [e] at this
    exact h ⟨this, h3⟩
theorem parseR_text {n : Nat} (hn : n ≤ 2147483647) : parseR (textL n) = ((n : Int), 0) := by
  obtain ⟨h1, h2⟩ := textL_canon n (by omega)
  rw [parseR_yes h1 (by omega), h2]
theorem str_dec (a b : ByteArray) : (a.toList == b.toList) = decide (a.data.toList = b.data.toList) := by
  rw [ByteArray.toList_eq, ByteArray.toList_eq, Bool.eq_iff_iff, beq_iff_eq, decide_eq_true_eq]
theorem size_len (s : ByteArray) : s.size = s.data.toList.length := Lib.size_eq s
theorem byte_at {s : ByteArray} {i : Nat} (h : i < s.data.toList.length) : byteAt s (i : Int) = ((s.data.toList[i]'h).toNat : Int) := by
  have h' : i < s.size := by rw [size_len]; exact h
  unfold byteAt
  rw [dif_pos (by rw [Int.toNat_natCast]; exact h')]
  simp only [Int.toNat_natCast]
  rfl
theorem valF_lt (l : List UInt8) : ∀ a, Digs l → valF a l < (a + 1) * 10 ^ l.length := by
  induction l with
  | nil =>
    intro a _
    have : valF a [] < (a + 1) * 10 ^ 0 := by
      rw [show valF a [] = a from rfl]; omega
    exact this
  | cons c l ih =>
    intro a hd
    have hc := hd c List.mem_cons_self
    have h := ih (a * 10 + (c.toNat - 48)) (fun d h => hd d (List.mem_cons_of_mem _ h))
    have h2 : (a * 10 + (c.toNat - 48) + 1) * 10 ^ l.length ≤ ((a + 1) * 10) * 10 ^ l.length := Nat.mul_le_mul_right _ (by omega)
    rw [List.length_cons, Nat.pow_succ, Nat.mul_comm (10 ^ l.length), ← Nat.mul_assoc]
    exact Nat.lt_of_lt_of_le h h2
theorem dig_ext : ∀ m : Fin 10, (⟨#[48, 49, 50, 51, 52, 53, 54, 55, 56, 57]⟩ : ByteArray).extract m.val (m.val + 1) = ⟨[(48 + m.val).toUInt8].toArray⟩ := by decide
theorem dig_ext' (m : Nat) (h : m < 10) : (⟨#[48, 49, 50, 51, 52, 53, 54, 55, 56, 57]⟩ : ByteArray).extract m (m + 1) = ⟨[(48 + m).toUInt8].toArray⟩ := dig_ext ⟨m, h⟩
theorem cut_dig (m : Nat) (h : m < 10) : cutOk (⟨#[48, 49, 50, 51, 52, 53, 54, 55, 56, 57]⟩ : ByteArray).size (some (m : Int)) (some (IntKind.wrap .i64 ((m : Int) + 1))) none := by
  rw [i64_id (by omega) (by omega)]
  have e : (⟨#[48, 49, 50, 51, 52, 53, 54, 55, 56, 57]⟩ : ByteArray).size = 10 := rfl
  rw [e]
  simp [cutOk]; omega
theorem app_arr (a b : List UInt8) : (⟨a.toArray⟩ : ByteArray) ++ ⟨b.toArray⟩ = ⟨(a ++ b).toArray⟩ := by
  apply ByteArray.ext
  simp
theorem textF_len : ∀ (k n : Nat), (textF k n).length ≤ k
  | 0, _ => Nat.le_refl _
  | k + 1, n => by
    rw [textF]; split
    · simp
    · have := textF_len k (n / 10); simp; omega
theorem text_ev (n : Int) (h0 : -9223372036854775808 ≤ n) (h1 : n < 9223372036854775808) : Ev (fun _ => f52_num_Text n) (fun r => r = textB n) := by
  unfold f52_num_Text
  exact Ev.pos ⟨h0, by omega⟩ (Ev.some rfl)
theorem parse_ev (s : ByteArray) (h : s.size ≤ 9223372036854775807) : Ev (fun _ => f51_num_Parse s) (fun r => r = parseR s.data.toList) := by
  unfold f51_num_Parse
  exact Ev.pos h (Ev.some rfl)
/-- A digit's number; below 0: it is none. -/
def digV (n : Nat) : Int := if 48 ≤ n ∧ n ≤ 57 then (n : Int) - 48 else if 97 ≤ n ∧ n ≤ 102 then (n : Int) - 87 else -1
theorem digV_lt (n : Nat) : -1 ≤ digV n ∧ digV n < 16 := by unfold digV; constructor <;> (repeat' split) <;> omega
def unhexF : List UInt8 → Option (List Int)
  | [] => some []
  | [_] => none
  | x :: y :: r => if digV x.toNat < 0 ∨ digV y.toNat < 0 then none else (unhexF r).map fun b => (digV x.toNat * 16 + digV y.toNat) :: b
def unhexR (l : List UInt8) : List Int × Int := if l = [45] then ([], 0) else match unhexF l with
  | none => ([], 11)
  | some b => if b = [] then ([], 11) else (b, 0)
abbrev dg : ByteArray := ⟨#[48, 49, 50, 51, 52, 53, 54, 55, 56, 57, 97, 98, 99, 100, 101, 102]⟩
theorem idx_fin : ∀ n : Fin 256, Lib.indexByte [48, 49, 50, 51, 52, 53, 54, 55, 56, 57, 97, 98, 99, 100, 101, 102] n.val.toUInt8 = digV n.val := by decide
theorem idx_is (c : UInt8) : Lib.indexByte dg.data.toList (((c.toNat : Nat) : Int)).toNat.toUInt8 = digV c.toNat := by
  rw [Int.toNat_natCast]
  exact idx_fin ⟨c.toNat, c.toNat_lt⟩
theorem index_ev (c : UInt8) : Ev (fun _ => f72_strings_IndexByte dg (c.toNat : Int)) (fun r => r = digV c.toNat) := by
  unfold f72_strings_IndexByte
  exact Ev.some (idx_is c)
theorem or_fin : ∀ h l : Fin 16, IntKind.wrap .u8 (bits .or .i64 (IntKind.wrap .i64 ((h.val : Int) * 2 ^ 4)) (l.val : Int)) = (h.val : Int) * 16 + l.val := by decide
theorem or_is {h l : Int} (h0 : 0 ≤ h ∧ h < 16) (l0 : 0 ≤ l ∧ l < 16) : IntKind.wrap .u8 (bits .or .i64 (IntKind.wrap .i64 (h * 2 ^ 4)) l) = h * 16 + l := by
  have := or_fin ⟨h.toNat, by omega⟩ ⟨l.toNat, by omega⟩
  simp only [show ((h.toNat : Nat) : Int) = h by omega, show ((l.toNat : Nat) : Int) = l by omega] at this
  exact this
theorem mul_is {h l : Int} (h0 : 0 ≤ h ∧ h < 16) (l0 : 0 ≤ l ∧ l < 16) : IntKind.wrap .u8 (IntKind.wrap .i64 ((IntKind.wrap .i64 (h * 16)) + l)) = h * 16 + l := by
  rw [i64_id (e := h * 16) (by omega) (by omega), i64_id (by omega) (by omega), u8_id (by omega) (by omega)]
theorem drop2 {l : List UInt8} {i : Nat} (h : i + 1 < l.length) : l.drop i = l[i] :: l[i + 1] :: l.drop (i + 2) := by
  rw [List.drop_eq_getElem_cons (by omega), List.drop_eq_getElem_cons h]
theorem unhex_loop (s : ByteArray) (l : List UInt8) (hs : s.data.toList = l) (hl : l.length ≤ 90000) : ∀ (d i : Nat) (hi : i ≤ l.length) (hd : l.length - i ≤ d) (b : List Int) (hb : b.length ≤ i),
    Ev (fun n => f77_num_Unhex_L5 n s b (i : Int)) (fun w => w = match unhexF (l.drop i) with
      | none => .inl ([], 11)
      | some x => .inr (b ++ x))
  | 0, i, hi, hd, b, hb => by
    have hsz : s.size = l.length := by rw [size_len, hs]
    apply Ev.succ
    unfold f77_num_Unhex_L5
    rw [hsz]
    refine Ev.neg (by simp only [decide_eq_true_eq]; omega) (Ev.some ?_)
    rw [List.drop_eq_nil_of_le (by omega)]; simp [unhexF]
  | d + 1, i, hi, hd, b, hb => by
    have hsz : s.size = l.length := by rw [size_len, hs]
    apply Ev.succ
    unfold f77_num_Unhex_L5
    rw [hsz]
    refine Ev.ite (fun c => ?_) (fun c => ?_)
    · simp only [decide_eq_true_eq] at c
      have hil : i < l.length := by omega
      rw [i64_id (e := (i : Int) + 1) (by omega) (by omega), i64_id (e := (i : Int) + 2) (by omega) (by omega)]
      refine Ev.ite (fun c1 => Ev.some ?_) (fun c1 => ?_)
      · simp only [beq_iff_eq] at c1
        have e : l.drop i = [l[i]] := by rw [List.drop_eq_getElem_cons hil, List.drop_eq_nil_of_le (by omega)]
        rw [e]; rfl
      simp only [beq_iff_eq] at c1
      have hi1 : i + 1 < l.length := by omega
      have hb0 : byteAt s (i : Int) = ((l[i]).toNat : Int) := by subst hs; exact byte_at hil
      have hb1 : byteAt s ((i : Int) + 1) = ((l[i + 1]).toNat : Int) := by
        subst hs
        have := byte_at (s := s) (i := i + 1) hi1
        rw [show ((i + 1 : Nat) : Int) = (i : Int) + 1 by omega] at this
        exact this
      rw [hb0, hb1, drop2 hi1, unhexF]
      have d1 := digV_lt (l[i]).toNat
      have d2 := digV_lt (l[i + 1]).toNat
      refine Ev.guard (by omega) (Ev.bind (index_ev _) ?_)
      rintro _ rfl
      refine Ev.guard (by omega) (Ev.bind (index_ev _) ?_)
      rintro _ rfl
      refine Ev.ite (fun c2 => Ev.some ?_) (fun c2 => Ev.ite (fun c3 => Ev.some ?_) (fun c3 => ?_))
      · simp only [decide_eq_true_eq] at c2
        rw [if_pos (.inl c2)]
      · simp only [decide_eq_true_eq] at c3
        rw [if_pos (.inr c3)]
      simp only [decide_eq_true_eq] at c2 c3
      rw [if_neg (by omega), or_is ⟨by omega, d1.2⟩ ⟨by omega, d2.2⟩]
      refine Ev.guard (by simp only [List.length_singleton, maxLen]; omega) ?_
      refine (unhex_loop s l hs hl d (i + 2) (by omega) (by omega) _ (by simp; omega)).mono ?_
      rintro _ rfl
      cases unhexF (l.drop (i + 2)) with
      | none => rfl
      | some x => simp
    · simp only [decide_eq_true_eq] at c
      refine Ev.some ?_
      rw [List.drop_eq_nil_of_le (by omega)]; simp [unhexF]
theorem unhex_len : ∀ (k : Nat) (l : List UInt8) (hk : l.length ≤ k) (b : List Int), unhexF l = some b → 2 * b.length = l.length
  | 0, l, hk, b, h => by
    have : l = [] := List.eq_nil_of_length_eq_zero (by omega)
    subst this
    simp only [unhexF, Option.some.injEq] at h
    subst h; rfl
  | k + 1, [], hk, b, h => by
    simp only [unhexF, Option.some.injEq] at h
    subst h; rfl
  | k + 1, [x], hk, b, h => by cases h
  | k + 1, x :: y :: r, hk, b, h => by
    rw [unhexF] at h
    split at h
    · cases h
    · obtain ⟨b', h', rfl⟩ := Option.map_eq_some_iff.1 h
      have := unhex_len k r (by simp at hk; omega) b' h'
      simp; omega
theorem unhex_is (s : ByteArray) (hl : s.size ≤ 90000) : Ev (fun n => f77_num_Unhex n s) (fun r => r = unhexR s.data.toList) := by
  rw [size_len] at hl
  generalize hs : s.data.toList = l at hl
  unfold f77_num_Unhex unhexR
  rw [str_dec, hs]
  refine Ev.ite (fun c => Ev.some ?_) (fun c => ?_)
  · simp only [decide_eq_true_eq] at c
    rw [if_pos c]
  simp only [decide_eq_true_eq] at c
  rw [if_neg c]
  refine Ev.bind (unhex_loop s l hs hl l.length 0 (by omega) (by omega) [] (by simp)) ?_
  rintro _ rfl
  rw [List.drop_zero]
  cases unhexF l with
  | none => exact Ev.some rfl
  | some b =>
    dsimp only
    rw [List.nil_append]
    refine Ev.ite (fun c => Ev.some ?_) (fun c => Ev.some ?_)
    · simp only [beq_iff_eq] at c
      rw [if_pos (List.eq_nil_of_length_eq_zero (by omega))]
    · simp only [beq_iff_eq] at c
      rw [if_neg (fun e => c (by subst e; rfl))]
theorem hexD_fin : ∀ n : Fin 16, digV (hexD n.val).toNat = n.val := by decide
theorem hexD_is (n : Nat) (h : n < 16) : digV (hexD n).toNat = n := hexD_fin ⟨n, h⟩
theorem back_fin : ∀ n : Fin 256, 0 ≤ digV n.val → hexD (digV n.val).toNat = n.val.toUInt8 := by decide
theorem back_is (c : UInt8) (h : 0 ≤ digV c.toNat) : hexD (digV c.toNat).toNat = c := by
  rw [back_fin ⟨c.toNat, c.toNat_lt⟩ h]
  simp
theorem unhex_hex : ∀ (b : List Int), Bytes b → unhexF (hexL (b.map fun x => x.toNat.toUInt8)) = some b
  | [], _ => rfl
  | x :: b, h => by
    have hx := h.head
    have e : (x.toNat.toUInt8).toNat = x.toNat := by simp; omega
    show unhexF (hexD ((x.toNat.toUInt8).toNat / 16) :: hexD ((x.toNat.toUInt8).toNat % 16) :: hexL (b.map fun x => x.toNat.toUInt8)) = _
    rw [unhexF, e, hexD_is _ (by omega), hexD_is _ (by omega), if_neg (by omega), unhex_hex b h.tail]
    simp; omega
theorem hex_unhex : ∀ (k : Nat) (l : List UInt8) (hk : l.length ≤ k) (b : List Int), unhexF l = some b → Bytes b ∧ hexL (b.map fun x => x.toNat.toUInt8) = l
  | 0, l, hk, b, h => by
    have : l = [] := List.eq_nil_of_length_eq_zero (by omega)
    subst this
    simp only [unhexF, Option.some.injEq] at h
    subst h; exact ⟨Bytes.nil, rfl⟩
  | k + 1, [], hk, b, h => by
    simp only [unhexF, Option.some.injEq] at h
    subst h; exact ⟨Bytes.nil, rfl⟩
  | k + 1, [x], hk, b, h => by cases h
  | k + 1, x :: y :: r, hk, b, h => by
    have d1 := digV_lt x.toNat
    have d2 := digV_lt y.toNat
    rw [unhexF] at h
    split at h
    · cases h
    · rename_i hc
      obtain ⟨b', h', rfl⟩ := Option.map_eq_some_iff.1 h
      obtain ⟨i1, i2⟩ := hex_unhex k r (by simp at hk; omega) b' h'
      refine ⟨Bytes.cons ⟨by omega, by omega⟩ i1, ?_⟩
      have e : ((digV x.toNat * 16 + digV y.toNat).toNat.toUInt8).toNat = (digV x.toNat * 16 + digV y.toNat).toNat := by simp; omega
      show hexD (((digV x.toNat * 16 + digV y.toNat).toNat.toUInt8).toNat / 16) :: hexD (((digV x.toNat * 16 + digV y.toNat).toNat.toUInt8).toNat % 16) :: hexL (b'.map fun x => x.toNat.toUInt8) = _
      rw [i2, e, show (digV x.toNat * 16 + digV y.toNat).toNat / 16 = (digV x.toNat).toNat by omega, show (digV x.toNat * 16 + digV y.toNat).toNat % 16 = (digV y.toNat).toNat by omega, back_is x (by omega), back_is y (by omega)]
theorem hex_ev (b : List Int) (hl : b.length ≤ 90000) (hb : Bytes b) : Ev (fun _ => f53_num_Hex b) (fun r => r = hexB b) := by
  unfold f53_num_Hex
  exact Ev.pos ⟨by omega, hb⟩ (Ev.some rfl)
theorem dg_at (n : Nat) (h : n < 16) : byteAt dg (n : Int) = ((hexD n).toNat : Int) := by
  have h' : n < dg.size := h
  unfold byteAt
  rw [dif_pos (by rw [Int.toNat_natCast]; exact h')]
  simp only [Int.toNat_natCast]
  have := dig_is n h
  exact congrArg (fun x : UInt8 => (x.toNat : Int)) this
theorem unhexR_hexB (b : List Int) (hb : Bytes b) : unhexR (hexB b).data.toList = (b, 0) := by
  unfold hexB
  by_cases h : b = []
  · subst h; rfl
  · rw [if_neg h]
    have e : (⟨(hexL (b.map fun x => x.toNat.toUInt8)).toArray⟩ : ByteArray).data.toList = hexL (b.map fun x => x.toNat.toUInt8) := rfl
    rw [e]
    unfold unhexR
    have hlen := hexL_len (b.map fun x => x.toNat.toUInt8)
    rw [List.length_map] at hlen
    have hne : b.length ≠ 0 := fun e => h (List.eq_nil_of_length_eq_zero e)
    rw [if_neg (fun e => by rw [e] at hlen; simp at hlen; omega), unhex_hex b hb]
    dsimp only
    rw [if_neg h]
/-- A text's bytes. -/
def D (a : ByteArray) : List UInt8 := a.data.toList
theorem D_app (a b : ByteArray) : D (a ++ b) = D a ++ D b := by simp [D]
theorem D_lit (l : List UInt8) : D ⟨l.toArray⟩ = l := rfl
theorem sz_D (a : ByteArray) : a.size = (D a).length := size_len a
theorem sz_app (a b : ByteArray) : (a ++ b).size = a.size + b.size := by rw [sz_D, D_app, List.length_append, ← sz_D, ← sz_D]
theorem sz_lit (l : List UInt8) : (⟨l.toArray⟩ : ByteArray).size = l.length := by rw [sz_D, D_lit]
theorem D_eq {a b : ByteArray} (h : D a = D b) : (a.toList == b.toList) = true := by
  rw [str_dec, decide_eq_true_eq]; exact h
theorem ext_D {a b : ByteArray} (h : D a = D b) : a = b := by
  apply ByteArray.ext
  exact Array.toList_inj.1 h
def ne (x : ByteArray) : Bool := decide (D x ≠ [])
def lineB (l : List ByteArray) : ByteArray := YtakamchmiakicaaDoorLeaf.joinB (l.filter ne) ⟨[32].toArray⟩
theorem line_loop (l : List ByteArray) (hl : l.length ≤ 1000) : ∀ (d i : Nat) (hi : i + d = l.length) (out : List ByteArray) (ho : out.length ≤ i),
    Ev (fun n => f16_num_Line_L3 n out l ((l.length : Nat) : Int) (i : Int)) (fun w => w = out ++ (l.drop i).filter ne)
  | 0, i, hi, out, ho => by
    apply Ev.succ
    unfold f16_num_Line_L3
    refine Ev.neg (by simp only [decide_eq_true_eq]; omega) (Ev.some ?_)
    rw [List.drop_eq_nil_of_le (by omega)]; simp
  | d + 1, i, hi, out, ho => by
    have e1 : l.drop i = l.getD i ByteArray.empty :: l.drop (i + 1) := drop_cons (by omega) _
    apply Ev.succ
    unfold f16_num_Line_L3
    rw [Int.toNat_natCast, i64_id (e := (i : Int) + 1) (by omega) (by omega), e1, List.filter_cons, str_dec]
    generalize l.getD i ByteArray.empty = x
    have hx : (!decide (x.data.toList = (⟨#[]⟩ : ByteArray).data.toList)) = ne x := by
      unfold ne D
      by_cases h : x.data.toList = []
      · rw [decide_eq_true h, decide_eq_false (by simpa using h)]; rfl
      · rw [decide_eq_false h, decide_eq_true (by simpa using h)]; rfl
    rw [hx]
    refine Ev.pos (by simp only [decide_eq_true_eq]; omega) (Ev.guard (by omega) (Ev.ite (fun c => Ev.guard (by simp only [List.length_singleton, maxLen]; omega) ?_) (fun c => ?_)))
    · refine (line_loop l hl d (i + 1) (by omega) _ (by simp; omega)).mono ?_
      rintro _ rfl
      rw [if_pos c]; simp
    · refine (line_loop l hl d (i + 1) (by omega) _ (by omega)).mono ?_
      rintro _ rfl
      rw [if_neg c]
theorem line_ev (l : List ByteArray) (hl : l.length ≤ 1000) (hs : (lineB l).size ≤ 100000000) : Ev (fun n => f16_num_Line n l) (fun r => r = lineB l) := by
  unfold f16_num_Line
  refine Ev.bind (line_loop l hl l.length 0 (by omega) [] (by simp)) ?_
  rintro _ rfl
  rw [List.drop_zero, List.nil_append]
  refine Ev.bind (P := fun r => r = lineB l) ?_ (fun r hr => Ev.some hr)
  unfold f50_strings_Join
  refine Ev.pos ⟨?_, ?_⟩ (Ev.some rfl)
  · have := List.length_filter_le ne l; omega
  · have : (lineB l).size ≤ 140737488355328 := by omega
    exact this
/-! Pieces. -/
theorem ne_of_sz {a : ByteArray} (h : 1 ≤ a.size) : D a ≠ [] := by
  intro e; rw [sz_D, e] at h; simp at h
/-- A word, if it is one. -/
def emit (w : List UInt8) : List (List UInt8) := if w = [] then [] else [w]
/-- The words between bytes c. -/
def ws (c : UInt8) (now : List UInt8) : List UInt8 → List (List UInt8)
  | [] => emit now
  | x :: r => if x = c then emit now ++ ws c [] r else ws c (now ++ [x]) r
/-- The words between blanks, ahead of a #. -/
def pc (now : List UInt8) : List UInt8 → List (List UInt8)
  | [] => emit now
  | x :: r => if x = 35 then emit now else if x = 32 then emit now ++ pc [] r else pc (now ++ [x]) r
def upto (l : List UInt8) : List UInt8 := l.takeWhile (· != 35)
theorem pc_ws : ∀ (l now : List UInt8), pc now l = ws 32 now (upto l)
  | [], now => rfl
  | x :: r, now => by
    rw [pc]
    by_cases h : x = 35
    · rw [if_pos h]; subst h; rfl
    · rw [if_neg h]
      have e : upto (x :: r) = x :: upto r := by
        unfold upto
        rw [List.takeWhile_cons, if_pos (by simpa using h)]
      rw [e, ws]
      split
      · rw [pc_ws r []]
      · rw [pc_ws r _]
theorem ws_no (c : UInt8) : ∀ (l now : List UInt8), c ∉ l → ws c now l = emit (now ++ l)
  | [], now, h => by rw [List.append_nil]; rfl
  | x :: r, now, h => by
    have hx : ¬ x = c := fun e => h (by rw [e]; exact List.mem_cons_self)
    rw [ws, if_neg hx, ws_no c r _ (fun q => h (List.mem_cons_of_mem _ q)), List.append_assoc]; rfl
theorem ws_at (c : UInt8) : ∀ (a r now : List UInt8), c ∉ a → ws c now (a ++ c :: r) = emit (now ++ a) ++ ws c [] r
  | [], r, now, h => by rw [List.nil_append, ws, if_pos rfl, List.append_nil]
  | x :: a, r, now, h => by
    have hx : ¬ x = c := fun e => h (by rw [e]; exact List.mem_cons_self)
    rw [List.cons_append, ws, if_neg hx, ws_at c a r _ (fun q => h (List.mem_cons_of_mem _ q)), List.append_assoc]; rfl
def fil (l : List (List UInt8)) : List (List UInt8) := l.filter fun w => decide (w ≠ [])
theorem fil_one (w : List UInt8) : fil [w] = emit w := by
  unfold fil emit
  by_cases h : w = [] <;> simp [h]
theorem fil_cons (w : List UInt8) (l : List (List UInt8)) : fil (w :: l) = emit w ++ fil l := by
  unfold fil emit
  by_cases h : w = [] <;> simp [h]
theorem byte_none {l : List UInt8} {c : UInt8} (h : Lib.indexByte l c = -1) : c ∉ l := by
  intro hm
  obtain ⟨k, hk⟩ := List.getElem?_of_mem hm
  exact Lib.indexByte_none h k hk
theorem byte_some {l : List UInt8} {c : UInt8} {o : Nat} (h : Lib.indexByte l c = o) : l = l.take o ++ c :: l.drop (o + 1) ∧ c ∉ l.take o ∧ o < l.length := by
  obtain ⟨h1, h2⟩ := Lib.indexByte_some h
  have hlt := (List.getElem?_eq_some_iff.1 h1).1
  have he := (List.getElem?_eq_some_iff.1 h1).2
  refine ⟨?_, fun hm => ?_, hlt⟩
  · conv => lhs; rw [← List.take_append_drop o l]
    rw [List.drop_eq_getElem_cons hlt, he]
  · obtain ⟨k, hk⟩ := List.getElem?_of_mem hm
    rw [List.getElem?_take] at hk
    split at hk
    · rename_i hko
      exact h2 k hko hk
    · cases hk
theorem byte_cases (l : List UInt8) (c : UInt8) : Lib.indexByte l c = -1 ∨ ∃ o : Nat, Lib.indexByte l c = o := by
  have := Lib.indexByte_ge l c
  by_cases h : Lib.indexByte l c = -1
  · exact .inl h
  · exact .inr ⟨(Lib.indexByte l c).toNat, by omega⟩
theorem split_fil (c : UInt8) : ∀ (k : Nat) (l : List UInt8), l.count c ≤ k → fil (Lib.splitK [c] 0 k l) = ws c [] l
  | 0, l, h => by
    have hn : c ∉ l := fun hm => by have := List.count_pos_iff.2 hm; omega
    rw [ws_no c l [] hn, List.nil_append]
    exact fil_one l
  | k + 1, l, h => by
    rw [Lib.splitK, Lib.index_one]
    rcases byte_cases l c with e | ⟨o, e⟩
    · rw [e, if_pos (by decide), fil_one, ws_no c l [] (byte_none e)]; rfl
    · obtain ⟨h1, h2, h3⟩ := byte_some e
      rw [e, if_neg (by rw [beq_iff_eq]; omega), Int.toNat_natCast, fil_cons, Nat.add_zero]
      have hc : l.count c = (l.drop (o + 1)).count c + 1 := by
        conv => lhs; rw [h1]
        rw [List.count_append, List.count_eq_zero.2 h2, List.count_cons_self]; omega
      show emit (l.take o) ++ fil (Lib.splitK [c] 0 k (l.drop (o + 1))) = _
      rw [split_fil c k _ (by omega)]
      conv => rhs; rw [h1]
      rw [ws_at c _ _ [] h2]; rfl
theorem cut_upto (l : List UInt8) : (Lib.cut l [35]).1 = upto l := by
  unfold Lib.cut
  rw [Lib.index_one]
  rcases byte_cases l 35 with e | ⟨o, e⟩
  · rw [e, if_neg (by decide)]
    have := byte_none e
    show l = l.takeWhile (· != 35)
    have hp : ∀ x ∈ l, (x != 35) = true := by
      intro x hx
      simp only [bne_iff_ne, ne_eq]
      intro e; subst e; exact this hx
    have q := List.takeWhile_append_of_pos (l₂ := ([] : List UInt8)) hp
    rw [List.append_nil] at q
    rw [q]; simp
  · obtain ⟨h1, h2, h3⟩ := byte_some e
    rw [e, if_pos (by omega), Int.toNat_natCast]
    show l.take o = l.takeWhile (· != 35)
    conv => rhs; rw [h1]
    rw [List.takeWhile_append_of_pos, List.takeWhile_cons, if_neg (by simp), List.append_nil]
    intro x hx
    simp only [bne_iff_ne, ne_eq]
    intro e; subst e; exact h2 hx
/-- A word that may stand between blanks. -/
def Word (w : List UInt8) : Prop := w ≠ [] ∧ (32 : UInt8) ∉ w ∧ (35 : UInt8) ∉ w
theorem emit_word {w : List UInt8} (h : (32 : UInt8) ∉ w ∧ (35 : UInt8) ∉ w) : ∀ x ∈ emit w, Word x := by
  intro x hx
  unfold emit at hx
  split at hx
  · cases hx
  · rename_i hne
    simp only [List.mem_singleton] at hx; subst hx; exact ⟨hne, h⟩
theorem pc_words : ∀ (l now : List UInt8) (h : (32 : UInt8) ∉ now ∧ (35 : UInt8) ∉ now), ∀ x ∈ pc now l, Word x
  | [], now, h => emit_word h
  | x :: r, now, h => by
    rw [pc]
    split
    · exact emit_word h
    · rename_i h35
      split
      · intro y hy
        rcases List.mem_append.1 hy with hy | hy
        · exact emit_word h y hy
        · exact pc_words r [] ⟨by simp, by simp⟩ y hy
      · rename_i h32
        refine pc_words r _ ⟨fun q => ?_, fun q => ?_⟩
        · rcases List.mem_append.1 q with q | q
          · exact h.1 q
          · simp only [List.mem_singleton] at q; exact h32 q.symm
        · rcases List.mem_append.1 q with q | q
          · exact h.2 q
          · simp only [List.mem_singleton] at q; exact h35 q.symm
theorem pc_len : ∀ (l now : List UInt8), ((pc now l).map List.length).sum ≤ now.length + l.length ∧ (pc now l).length ≤ 1 + l.length
  | [], now => by
    unfold pc emit
    split <;> simp
  | x :: r, now => by
    have he : ((emit now).map List.length).sum ≤ now.length ∧ (emit now).length ≤ 1 := by unfold emit; split <;> simp
    rw [pc]
    split
    · simp only [List.length_cons]; omega
    · split
      · have := pc_len r []
        rw [List.map_append, List.sum_append, List.length_append]
        simp only [List.length_cons, List.length_nil] at this ⊢; omega
      · have := pc_len r (now ++ [x])
        simp only [List.length_append, List.length_cons, List.length_nil] at this ⊢; omega
theorem pc_word : ∀ (w now t : List UInt8), (32 : UInt8) ∉ w → (35 : UInt8) ∉ w → pc now (w ++ t) = pc (now ++ w) t
  | [], now, t, _, _ => by simp
  | x :: w, now, t, h1, h2 => by
    have a : ¬ x = 35 := fun e => h2 (by rw [e]; exact List.mem_cons_self)
    have b : ¬ x = 32 := fun e => h1 (by rw [e]; exact List.mem_cons_self)
    rw [List.cons_append, pc, if_neg a, if_neg b, pc_word w _ t (fun q => h1 (List.mem_cons_of_mem _ q)) (fun q => h2 (List.mem_cons_of_mem _ q)), List.append_assoc]; rfl
theorem pc_tail : ∀ (r : List (List UInt8)) (x : List UInt8) (hx : Word x) (hr : ∀ w ∈ r, Word w), pc x (Lib.joinTail [32] r) = x :: r
  | [], x, hx, hr => by
    show emit x = [x]
    unfold emit; rw [if_neg hx.1]
  | y :: r, x, hx, hr => by
    have hy := hr y List.mem_cons_self
    have e : Lib.joinTail [32] (y :: r) = 32 :: (y ++ Lib.joinTail [32] r) := by simp [Lib.joinTail]
    rw [e, pc, if_neg (by decide), if_pos rfl, pc_word y [] _ hy.2.1 hy.2.2, List.nil_append, pc_tail r y hy (fun w hw => hr w (List.mem_cons_of_mem _ hw))]
    unfold emit; rw [if_neg hx.1]; rfl
theorem pc_join (p : List (List UInt8)) (h : ∀ w ∈ p, Word w) : pc [] (Lib.join p [32]) = p := by
  cases p with
  | nil => rfl
  | cons x r =>
    have hx := h x List.mem_cons_self
    rw [Lib.join_cons, pc_word x [] _ hx.2.1 hx.2.2, List.nil_append, pc_tail r x hx (fun w hw => h w (List.mem_cons_of_mem _ hw))]
/-- The line, a word more. -/
theorem joinTail_snoc (r : List (List UInt8)) (y : List UInt8) : Lib.joinTail [32] (r ++ [y]) = Lib.joinTail [32] r ++ 32 :: y := by simp [Lib.joinTail]
theorem join_snoc (r : List (List UInt8)) (y : List UInt8) : Lib.join (r ++ [y]) [32] = if r = [] then y else Lib.join r [32] ++ [32] ++ y := by
  cases r with
  | nil => rw [if_pos rfl]; simp [Lib.join_one]
  | cons x r => rw [if_neg (by simp), List.cons_append, Lib.join_cons, Lib.join_cons, joinTail_snoc]; simp
theorem join_nil_iff (r : List (List UInt8)) (h : ∀ w ∈ r, w ≠ []) : (Lib.join r [32] = []) ↔ r = [] := by
  cases r with
  | nil => exact ⟨fun _ => rfl, fun _ => rfl⟩
  | cons x r =>
    rw [Lib.join_cons]
    have := h x List.mem_cons_self
    simp [this]
theorem join_len (r : List (List UInt8)) : (Lib.join r [32]).length ≤ (r.map List.length).sum + r.length := by
  cases r with
  | nil => exact Nat.le_refl _
  | cons x r =>
    rw [Lib.join_length]
    show 1 * r.length + Lib.lens (x :: r) ≤ _
    have : Lib.lens (x :: r) = ((x :: r).map List.length).sum := rfl
    rw [this, List.length_cons]; omega
theorem ne_is (x : ByteArray) : (!(x.toList == (⟨#[]⟩ : ByteArray).toList)) = ne x := by
  rw [str_dec]
  unfold ne D
  by_cases h : x.data.toList = []
  · rw [decide_eq_true (by simpa using h), decide_eq_false (by simpa using h)]; rfl
  · rw [decide_eq_false (by simpa using h), decide_eq_true (by simpa using h)]; rfl
theorem fil_map (l : List ByteArray) : (l.filter ne).map D = fil (l.map D) := by
  unfold fil
  rw [List.filter_map]; rfl
theorem line_Dj (l : List ByteArray) : D (lineB l) = Lib.join (fil (l.map D)) [32] := by
  rw [← fil_map]; rfl
theorem pieces_loop (l : List ByteArray) (hl : l.length ≤ 100000) : ∀ (d i : Nat) (hi : i + d = l.length) (out : List ByteArray) (ho : out.length ≤ i),
    Ev (fun n => f15_num_Pieces_L4 n out l ((l.length : Nat) : Int) (i : Int)) (fun w => w = out ++ (l.drop i).filter ne)
  | 0, i, hi, out, ho => by
    apply Ev.succ
    unfold f15_num_Pieces_L4
    refine Ev.neg (by simp only [decide_eq_true_eq]; omega) (Ev.some ?_)
    rw [List.drop_eq_nil_of_le (by omega)]; simp
  | d + 1, i, hi, out, ho => by
    have e1 : l.drop i = l.getD i ByteArray.empty :: l.drop (i + 1) := drop_cons (by omega) _
    apply Ev.succ
    unfold f15_num_Pieces_L4
    rw [Int.toNat_natCast, i64_id (e := (i : Int) + 1) (by omega) (by omega), e1, List.filter_cons, ne_is]
    generalize l.getD i ByteArray.empty = x
    refine Ev.pos (by simp only [decide_eq_true_eq]; omega) (Ev.guard (by omega) (Ev.ite (fun c => Ev.guard (by simp only [List.length_singleton, maxLen]; omega) ?_) (fun c => ?_)))
    · refine (pieces_loop l hl d (i + 1) (by omega) _ (by simp; omega)).mono ?_
      rintro _ rfl
      rw [if_pos c]; simp
    · refine (pieces_loop l hl d (i + 1) (by omega) _ (by omega)).mono ?_
      rintro _ rfl
      rw [if_neg c]
theorem countB_cut (s : ByteArray) (c : UInt8) : Lib.countB s ⟨#[c]⟩ = (D s).count c := by
  show Lib.count s.data.toList [c] = _
  rw [Lib.count_one]; rfl
theorem split_D (s : ByteArray) (c : UInt8) : fil ((splitS s ⟨#[c]⟩).map D) = ws c [] (D s) := by
  unfold splitS
  have e : (Lib.splitB ⟨#[c]⟩ 0 (Lib.countB s ⟨#[c]⟩) s).map D = Lib.splitK [c] 0 (Lib.countB s ⟨#[c]⟩) (D s) := Lib.splitB_data ⟨#[c]⟩ 0 _ s
  rw [e, split_fil c _ (D s) (by rw [countB_cut]; exact Nat.le_refl _)]
theorem split_len (s : ByteArray) (c : UInt8) : (splitS s ⟨#[c]⟩).length ≤ s.size + 1 := by
  have h1 := Lib.splitB_all ⟨#[c]⟩ (Nat.le_refl 1) 0 _ s rfl
  have h2 := Lib.countB_le ⟨#[c]⟩ (Nat.le_refl 1) s.size s (Nat.le_refl _)
  show (Lib.splitB ⟨#[c]⟩ 0 (Lib.countB s ⟨#[c]⟩) s).length ≤ _
  rw [h1]; omega
theorem pieces_ev (s : ByteArray) (hs : s.size ≤ 90000) : Ev (fun n => f15_num_Pieces n s) (fun r => r.map D = pc [] (D s)) := by
  unfold f15_num_Pieces
  refine Ev.bind (P := fun r => r = cutB s ⟨#[35]⟩) ?_ ?_
  · unfold f49_strings_Cut
    exact Ev.pos ⟨rfl, by omega⟩ (Ev.some rfl)
  rintro _ rfl
  have hD : D (cutB s ⟨#[35]⟩).1 = upto (D s) := cut_upto (D s)
  have hsz : (cutB s ⟨#[35]⟩).1.size ≤ 90000 := by
    rw [sz_D, hD]
    have : (upto (D s)).length ≤ (D s).length := (List.takeWhile_sublist _).length_le
    rw [sz_D] at hs; omega
  refine Ev.bind (P := fun r => r = splitS (cutB s ⟨#[35]⟩).1 ⟨#[32]⟩) ?_ ?_
  · unfold f45_strings_Split
    exact Ev.pos ⟨rfl, by omega⟩ (Ev.some rfl)
  rintro _ rfl
  have hlen := split_len (cutB s ⟨#[35]⟩).1 32
  generalize hq : splitS (cutB s ⟨#[35]⟩).1 ⟨#[32]⟩ = q at hlen
  refine Ev.bind (pieces_loop q (by omega) q.length 0 (by omega) [] (by simp)) ?_
  rintro _ rfl
  refine Ev.some ?_
  rw [List.drop_zero, List.nil_append, fil_map, ← hq, split_D, hD, pc_ws]
abbrev Stp := Int × Int × Int × Int × Int × Int × List Int
def unw (l : List UInt8) : ByteArray := ⟨l.toArray⟩
theorem unw_D (a : ByteArray) : unw (D a) = a := ext_D rfl
def pieceB (s : ByteArray) : List ByteArray := (pc [] (D s)).map unw
theorem map_unw {r : List ByteArray} {x : List (List UInt8)} (h : r.map D = x) : r = x.map unw := by
  subst h
  rw [List.map_map]
  conv => lhs; rw [← List.map_id r]
  exact List.map_congr_left fun a _ => (unw_D a).symm
theorem pieceB_D (s : ByteArray) : (pieceB s).map D = pc [] (D s) := by
  unfold pieceB
  rw [List.map_map]
  conv => rhs; rw [← List.map_id (pc [] (D s))]
  exact List.map_congr_left fun a _ => rfl
theorem pieceB_ev (s : ByteArray) (hs : s.size ≤ 90000) : Ev (fun n => f15_num_Pieces n s) (fun r => r = pieceB s) := (pieces_ev s hs).mono fun r h => map_unw h
theorem mem_sum {l : List (List UInt8)} {x : List UInt8} (h : x ∈ l) : x.length ≤ (l.map List.length).sum := by
  induction l with
  | nil => cases h
  | cons y l ih =>
    rw [List.map_cons, List.sum_cons]
    rcases List.mem_cons.1 h with rfl | h
    · omega
    · have := ih h; omega
theorem pieceB_sz {s x : ByteArray} (h : x ∈ pieceB s) : x.size ≤ s.size := by
  have h1 : D x ∈ pc [] (D s) := by rw [← pieceB_D]; exact List.mem_map_of_mem h
  have h2 := mem_sum h1
  have h3 := (pc_len (D s) []).1
  rw [sz_D, sz_D s]
  simp only [List.length_nil] at h3
  omega
theorem pieceB_len (s : ByteArray) : (pieceB s).length ≤ 1 + s.size := by
  have h3 := (pc_len (D s) []).2
  rw [← pieceB_D, List.length_map] at h3
  rw [sz_D]; exact h3
/-! A step's parts. -/
def setC (c : UInt8) (v : Int) (s : Stp) : Stp :=
  if c = 104 then (s.1, v, s.2.2) else if c = 110 then (s.1, s.2.1, v, s.2.2.2) else if c = 112 then (s.1, s.2.1, s.2.2.1, v, s.2.2.2.2) else if c = 119 then (s.1, s.2.1, s.2.2.1, s.2.2.2.1, v, s.2.2.2.2.2) else (s.1, s.2.1, s.2.2.1, s.2.2.2.1, s.2.2.2.2.1, v, s.2.2.2.2.2.2)
def setB (b : List Int) (s : Stp) : Stp := (s.1, s.2.1, s.2.2.1, s.2.2.2.1, s.2.2.2.2.1, s.2.2.2.2.2.1, b)
def fldC (c : UInt8) (x : ByteArray) (s : Stp) : Option Stp :=
  if c = 98 then (if (unhexR x.data.toList).2 = 0 then some (setB (unhexR x.data.toList).1 s) else none)
  else if (parseR x.data.toList).2 = 0 then some (setC c (parseR x.data.toList).1 s) else none
def fldL : List UInt8 → List ByteArray → Stp → Option Stp
  | [], _, s => some s
  | _ :: _, [], _ => none
  | c :: cs, x :: xs, s => (fldC c x s).bind (fldL cs xs)
def no : Bool × Stp := (false, 0, 0, 0, 0, 0, 0, [])
def okS : Option Stp → Bool × Stp
  | none => no
  | some s => (true, s)
def Alf (l : List UInt8) : Prop := ∀ c ∈ l, c = 104 ∨ c = 110 ∨ c = 112 ∨ c = 119 ∨ c = 107 ∨ c = 98
def G (o : Option Stp) (r : (Bool × Stp) ⊕ (Int × Int × Int × Int × Int × Int × Stp)) : Prop := match o with
  | none => r = .inl no
  | some s => r = .inr (0, 0, 0, 0, 0, 0, s)
theorem part_h (s : Stp) : Ev (fun _ => f71_script_part_v2 ((104 : UInt8).toNat : Int) s.1 s.2.1 s.2.2.1 s.2.2.2.1 s.2.2.2.2.1 s.2.2.2.2.2.1 s.2.2.2.2.2.2) (fun r => r = .inl s) := Ev.some rfl
theorem part_n (s : Stp) : Ev (fun _ => f71_script_part_v2 ((110 : UInt8).toNat : Int) s.1 s.2.1 s.2.2.1 s.2.2.2.1 s.2.2.2.2.1 s.2.2.2.2.2.1 s.2.2.2.2.2.2) (fun r => r = .inr (.inl s)) := Ev.some rfl
theorem part_p (s : Stp) : Ev (fun _ => f71_script_part_v2 ((112 : UInt8).toNat : Int) s.1 s.2.1 s.2.2.1 s.2.2.2.1 s.2.2.2.2.1 s.2.2.2.2.2.1 s.2.2.2.2.2.2) (fun r => r = .inr (.inr (.inl s))) := Ev.some rfl
theorem part_w (s : Stp) : Ev (fun _ => f71_script_part_v2 ((119 : UInt8).toNat : Int) s.1 s.2.1 s.2.2.1 s.2.2.2.1 s.2.2.2.2.1 s.2.2.2.2.2.1 s.2.2.2.2.2.2) (fun r => r = .inr (.inr (.inr (.inl s)))) := Ev.some rfl
theorem part_k (s : Stp) : Ev (fun _ => f71_script_part_v2 ((107 : UInt8).toNat : Int) s.1 s.2.1 s.2.2.1 s.2.2.2.1 s.2.2.2.2.1 s.2.2.2.2.2.1 s.2.2.2.2.2.2) (fun r => r = .inr (.inr (.inr (.inr (.inl s))))) := Ev.some rfl
theorem part_b (s : Stp) : Ev (fun _ => f71_script_part_v2 ((98 : UInt8).toNat : Int) s.1 s.2.1 s.2.2.1 s.2.2.2.1 s.2.2.2.2.1 s.2.2.2.2.2.1 s.2.2.2.2.2.2) (fun r => r = .inr (.inr (.inr (.inr (.inr s))))) := Ev.some rfl
theorem step_loop (w : List ByteArray) (q : ByteArray) (x0 : ByteArray) (ha : Alf (D q)) (hw : w.length = q.size + 1) (hb : ∀ x ∈ w, x.size ≤ 90000) (hq : q.size ≤ 90000) : ∀ (d i : Nat) (hi : i + d = q.size) (s : Stp),
    Ev (fun n => f46_script_step_L7 n w ((q.size : Nat) : Int) (i : Int) 0 0 0 0 0 0 x0 q s.1 s.2.1 s.2.2.1 s.2.2.2.1 s.2.2.2.2.1 s.2.2.2.2.2.1 s.2.2.2.2.2.2) (G (fldL ((D q).drop i) (w.drop (i + 1)) s))
  | 0, i, hi, s => by
    apply Ev.succ
    unfold f46_script_step_L7
    refine Ev.neg (by simp only [decide_eq_true_eq]; omega) (Ev.some ?_)
    rw [List.drop_eq_nil_of_le (by rw [← sz_D]; omega)]
    rfl
  | d + 1, i, hi, s => by
    have hil : i < (D q).length := by rw [← sz_D]; omega
    have hbt : byteAt q (i : Int) = (((D q)[i]'hil).toNat : Int) := byte_at hil
    have hdrop : (D q).drop i = (D q)[i] :: (D q).drop (i + 1) := List.drop_eq_getElem_cons hil
    have hwd : w.drop (i + 1) = w.getD (i + 1) ByteArray.empty :: w.drop (i + 1 + 1) := drop_cons (by omega) _
    have hc := ha _ (List.getElem_mem hil)
    have hx := hb _ (getD_mem (show i + 1 < w.length by omega) ByteArray.empty)
    have ih := fun s' => step_loop w q x0 ha hw hb hq d (i + 1) (by omega) s'
    apply Ev.succ
    unfold f46_script_step_L7
    rw [i64_id (e := (i : Int) + 1) (by omega) (by omega), hbt, show ((i : Int) + 1).toNat = i + 1 by omega, hdrop, hwd]
    generalize (D q)[i] = c at hc
    generalize w.getD (i + 1) ByteArray.empty = x at hx
    refine Ev.pos (by simp only [decide_eq_true_eq]; omega) (Ev.guard (by omega) ?_)
    rcases hc with rfl | rfl | rfl | rfl | rfl | rfl
    · refine Ev.bind (part_h s) ?_
      rintro _ rfl
      refine Ev.guard (by omega) (Ev.bind (parse_ev x (by omega)) ?_)
      rintro _ rfl
      refine Ev.ite (fun c => Ev.some ?_) (fun c => ?_)
      · have e : fldC 104 x s = none := by
          have c : ¬ (parseR x.data.toList).2 = 0 := by simpa using c
          unfold fldC; rw [if_neg (by decide), if_neg c]
        show G ((fldC 104 x s).bind _) _
        rw [e]; rfl
      · have e : fldC 104 x s = some (setC 104 (parseR x.data.toList).1 s) := by
          have c : (parseR x.data.toList).2 = 0 := by simpa using c
          unfold fldC; rw [if_neg (by decide), if_pos c]
        show Ev _ (G ((fldC 104 x s).bind _))
        rw [e]
        exact ih (setC 104 (parseR x.data.toList).1 s)
    · refine Ev.bind (part_n s) ?_
      rintro _ rfl
      refine Ev.guard (by omega) (Ev.bind (parse_ev x (by omega)) ?_)
      rintro _ rfl
      refine Ev.ite (fun c => Ev.some ?_) (fun c => ?_)
      · have e : fldC 110 x s = none := by
          have c : ¬ (parseR x.data.toList).2 = 0 := by simpa using c
          unfold fldC; rw [if_neg (by decide), if_neg c]
        show G ((fldC 110 x s).bind _) _
        rw [e]; rfl
      · have e : fldC 110 x s = some (setC 110 (parseR x.data.toList).1 s) := by
          have c : (parseR x.data.toList).2 = 0 := by simpa using c
          unfold fldC; rw [if_neg (by decide), if_pos c]
        show Ev _ (G ((fldC 110 x s).bind _))
        rw [e]
        exact ih (setC 110 (parseR x.data.toList).1 s)
    · refine Ev.bind (part_p s) ?_
      rintro _ rfl
      refine Ev.guard (by omega) (Ev.bind (parse_ev x (by omega)) ?_)
      rintro _ rfl
      refine Ev.ite (fun c => Ev.some ?_) (fun c => ?_)
      · have e : fldC 112 x s = none := by
          have c : ¬ (parseR x.data.toList).2 = 0 := by simpa using c
          unfold fldC; rw [if_neg (by decide), if_neg c]
        show G ((fldC 112 x s).bind _) _
        rw [e]; rfl
      · have e : fldC 112 x s = some (setC 112 (parseR x.data.toList).1 s) := by
          have c : (parseR x.data.toList).2 = 0 := by simpa using c
          unfold fldC; rw [if_neg (by decide), if_pos c]
        show Ev _ (G ((fldC 112 x s).bind _))
        rw [e]
        exact ih (setC 112 (parseR x.data.toList).1 s)
    · refine Ev.bind (part_w s) ?_
      rintro _ rfl
      refine Ev.guard (by omega) (Ev.bind (parse_ev x (by omega)) ?_)
      rintro _ rfl
      refine Ev.ite (fun c => Ev.some ?_) (fun c => ?_)
      · have e : fldC 119 x s = none := by
          have c : ¬ (parseR x.data.toList).2 = 0 := by simpa using c
          unfold fldC; rw [if_neg (by decide), if_neg c]
        show G ((fldC 119 x s).bind _) _
        rw [e]; rfl
      · have e : fldC 119 x s = some (setC 119 (parseR x.data.toList).1 s) := by
          have c : (parseR x.data.toList).2 = 0 := by simpa using c
          unfold fldC; rw [if_neg (by decide), if_pos c]
        show Ev _ (G ((fldC 119 x s).bind _))
        rw [e]
        exact ih (setC 119 (parseR x.data.toList).1 s)
    · refine Ev.bind (part_k s) ?_
      rintro _ rfl
      refine Ev.guard (by omega) (Ev.bind (parse_ev x (by omega)) ?_)
      rintro _ rfl
      refine Ev.ite (fun c => Ev.some ?_) (fun c => ?_)
      · have e : fldC 107 x s = none := by
          have c : ¬ (parseR x.data.toList).2 = 0 := by simpa using c
          unfold fldC; rw [if_neg (by decide), if_neg c]
        show G ((fldC 107 x s).bind _) _
        rw [e]; rfl
      · have e : fldC 107 x s = some (setC 107 (parseR x.data.toList).1 s) := by
          have c : (parseR x.data.toList).2 = 0 := by simpa using c
          unfold fldC; rw [if_neg (by decide), if_pos c]
        show Ev _ (G ((fldC 107 x s).bind _))
        rw [e]
        exact ih (setC 107 (parseR x.data.toList).1 s)
    · refine Ev.bind (part_b s) ?_
      rintro _ rfl
      refine Ev.guard (by omega) (Ev.bind (unhex_is x hx) ?_)
      rintro _ rfl
      refine Ev.ite (fun c => Ev.some ?_) (fun c => ?_)
      · have e : fldC 98 x s = none := by
          have c : ¬ (unhexR x.data.toList).2 = 0 := by simpa using c
          unfold fldC; rw [if_pos rfl, if_neg c]
        show G ((fldC 98 x s).bind _) _
        rw [e]; rfl
      · have e : fldC 98 x s = some (setB (unhexR x.data.toList).1 s) := by
          have c : (unhexR x.data.toList).2 = 0 := by simpa using c
          unfold fldC; rw [if_pos rfl, if_pos c]
        show Ev _ (G ((fldC 98 x s).bind _))
        rw [e]
        exact ih (setB (unhexR x.data.toList).1 s)
def tb : List ByteArray := [⟨#[]⟩, ⟨#[]⟩, ⟨#[108, 105, 115, 116, 101, 110]⟩, ⟨#[104, 110]⟩, ⟨#[99, 111, 110, 110, 101, 99, 116]⟩, ⟨#[104, 110, 112, 119]⟩, ⟨#[97, 99, 99, 101, 112, 116]⟩, ⟨#[104, 110]⟩, ⟨#[119, 114, 105, 116, 101]⟩, ⟨#[104, 110, 98]⟩, ⟨#[114, 101, 97, 100]⟩, ⟨#[104, 110, 107]⟩, ⟨#[99, 108, 111, 115, 101]⟩, ⟨#[104, 110]⟩, ⟨#[97, 98, 111, 114, 116]⟩, ⟨#[104, 110]⟩, ⟨#[114, 101, 108, 101, 97, 115, 101]⟩, ⟨#[104, 110]⟩, ⟨#[111, 102, 102, 101, 114]⟩, ⟨#[104, 110, 119]⟩, ⟨#[116, 105, 99, 107]⟩, ⟨#[107]⟩, ⟨#[100, 101, 108, 105, 118, 101, 114]⟩, ⟨#[107]⟩, ⟨#[100, 114, 111, 112]⟩, ⟨#[107]⟩, ⟨#[99, 111, 112, 121]⟩, ⟨#[107]⟩, ⟨#[114, 101, 112, 108, 97, 121]⟩, ⟨#[119, 107]⟩, ⟨#[114, 101, 102, 108, 101, 99, 116]⟩, ⟨#[119, 107]⟩, ⟨#[105, 110, 106, 101, 99, 116]⟩, ⟨#[104, 119, 98]⟩]
def wd (k : Nat) : ByteArray := tb.getD (k * 2 + 0) ByteArray.empty
def pt (k : Nat) : ByteArray := tb.getD (k * 2 + 1) ByteArray.empty
theorem alf_fin : ∀ k : Fin 17, ∀ c ∈ D (pt k.val), c = 104 ∨ c = 110 ∨ c = 112 ∨ c = 119 ∨ c = 107 ∨ c = 98 := by decide
theorem alf_pt {k : Nat} (h : k < 17) : Alf (D (pt k)) := alf_fin ⟨k, h⟩
theorem pt_fin : ∀ k : Fin 17, (pt k.val).size ≤ 4 := by decide
theorem pt_sz {k : Nat} (h : k < 17) : (pt k).size ≤ 4 := pt_fin ⟨k, h⟩
def stepAt (w : List ByteArray) : Nat → Nat → Bool × Stp
  | 0, _ => no
  | d + 1, k => if D (wd k) = D (w.getD 0 ByteArray.empty) ∧ w.length = (pt k).size + 1 then okS (fldL (D (pt k)) (w.drop 1) ((k : Int), 0, 0, 0, 0, 0, [])) else stepAt w d (k + 1)
def G2 (r : (Bool × Stp) ⊕ (Int × Int × Int × Int × Int × Int)) : Bool × Stp := match r with
  | .inl e => e
  | .inr _ => no
theorem G_out {o : Option Stp} {r} (h : G o r) : (∃ e, r = .inl e ∧ okS o = e) ∨ (∃ s, r = .inr (0, 0, 0, 0, 0, 0, s) ∧ okS o = (true, s)) := by
  cases o with
  | none => exact .inl ⟨no, h, rfl⟩
  | some s => exact .inr ⟨s, h, rfl⟩
theorem kinds_loop (w : List ByteArray) (h1 : 1 ≤ w.length) (hl : w.length ≤ 90000) (hb : ∀ x ∈ w, x.size ≤ 90000) (t_0 t_1 t_2 t_3 t_4 t_5 t_6 t_7 t_8 t_9 t_10 t_11 t_12 t_13 t_14 t_15 t_16 t_17 t_18 t_19 t_20 t_21 t_22 t_23 t_24 t_25 t_26 t_27 t_28 t_29 t_30 t_31 t_32 t_33 : ByteArray) (ht : [t_0, t_1, t_2, t_3, t_4, t_5, t_6, t_7, t_8, t_9, t_10, t_11, t_12, t_13, t_14, t_15, t_16, t_17, t_18, t_19, t_20, t_21, t_22, t_23, t_24, t_25, t_26, t_27, t_28, t_29, t_30, t_31, t_32, t_33] = tb) : ∀ (d k : Nat) (hk : k + d = 17) (hk1 : 1 ≤ k),
    Ev (fun n => f46_script_step_L2 n w t_0 t_1 t_2 t_3 t_4 t_5 t_6 t_7 t_8 t_9 t_10 t_11 t_12 t_13 t_14 t_15 t_16 t_17 t_18 t_19 t_20 t_21 t_22 t_23 t_24 t_25 t_26 t_27 t_28 t_29 t_30 t_31 t_32 t_33 (k : Int) 0 0 0 0 0 0) (fun r => G2 r = stepAt w d k)
  | 0, k, hk, hk1 => by
    apply Ev.succ
    unfold f46_script_step_L2
    exact Ev.neg (by simp only [decide_eq_true_eq]; omega) (Ev.some rfl)
  | d + 1, k, hk, hk1 => by
    have ih := kinds_loop w h1 hl hb t_0 t_1 t_2 t_3 t_4 t_5 t_6 t_7 t_8 t_9 t_10 t_11 t_12 t_13 t_14 t_15 t_16 t_17 t_18 t_19 t_20 t_21 t_22 t_23 t_24 t_25 t_26 t_27 t_28 t_29 t_30 t_31 t_32 t_33 ht d (k + 1) (by omega) (by omega)
    have hp := pt_sz (show k < 17 by omega)
    apply Ev.succ
    unfold f46_script_step_L2
    rw [ht, i64_id (e := (k : Int) + 1) (by omega) (by omega), Int.toNat_natCast]
    rw [show tb.getD (k * 2 + 0) ByteArray.empty = wd k from rfl, show tb.getD (k * 2 + 1) ByteArray.empty = pt k from rfl, str_dec, i64_id (e := 1 + (((pt k).size : Nat) : Int)) (by omega) (by omega)]
    refine Ev.pos (by simp only [decide_eq_true_eq]; omega) (Ev.guard (by omega) (Ev.neg (by simp only [beq_iff_eq]; omega) (Ev.guard (by omega) ?_)))
    refine Ev.ite (fun c => ?_) (fun c => Ev.ite (fun c2 => ?_) (fun c2 => ?_))
    · have c : ¬ D (wd k) = D (w.getD 0 ByteArray.empty) := by
        simp only [Bool.not_eq_true', decide_eq_false_iff_not] at c; exact c
      rw [stepAt, if_neg (fun q => c q.1)]
      exact ih
    · have c2 : ¬ w.length = (pt k).size + 1 := by
        simp only [bne_iff_ne, ne_eq] at c2; omega
      rw [stepAt, if_neg (fun q => c2 q.2)]
      exact ih
    · have c : D (wd k) = D (w.getD 0 ByteArray.empty) := by
        simp only [Bool.not_eq_true', decide_eq_false_iff_not, Decidable.not_not] at c; exact c
      have c2 : w.length = (pt k).size + 1 := by
        simp only [bne_iff_ne, ne_eq, Decidable.not_not] at c2; omega
      rw [stepAt, if_pos ⟨c, c2⟩]
      refine Ev.bind (step_loop w (pt k) (wd k) (alf_pt (by omega)) c2 hb (by omega) (pt k).size 0 (by omega) ((k : Int), 0, 0, 0, 0, 0, [])) ?_
      intro r hr
      rw [List.drop_zero] at hr
      rcases G_out hr with ⟨e, rfl, he⟩ | ⟨s, rfl, he⟩
      · exact Ev.some he.symm
      · exact Ev.some he.symm
def stepB (w : List ByteArray) : Bool × Stp := stepAt w 16 1
theorem step_ev (w : List ByteArray) (h1 : 1 ≤ w.length) (hl : w.length ≤ 90000) (hb : ∀ x ∈ w, x.size ≤ 90000) : Ev (fun n => f46_script_step n w) (fun r => r = stepB w) := by
  unfold f46_script_step
  refine Ev.bind (P := fun r => r = Option.get f70_script_shapes rfl) (Ev.some rfl) ?_
  rintro _ rfl
  refine Ev.bind (P := fun r => G2 r = stepB w) ?_ ?_
  · apply Ev.succ
    unfold f46_script_step_L2
    refine Ev.pos (by decide) (Ev.guard (by decide) (Ev.pos rfl ?_))
    exact kinds_loop w h1 hl hb _ _ _ _ _ _ _ _ _ _ _ _ _ _ _ _ _ _ _ _ _ _ _ _ _ _ _ _ _ _ _ _ _ _ rfl 16 1 rfl (Nat.le_refl 1)
  · intro r hr
    rcases r with e | e
    · exact Ev.some hr
    · exact Ev.some hr
/-- What stands between bytes c. -/
def sp (c : UInt8) (now : List UInt8) : List UInt8 → List (List UInt8)
  | [] => [now]
  | x :: r => if x = c then now :: sp c [] r else sp c (now ++ [x]) r
theorem sp_no (c : UInt8) : ∀ (l now : List UInt8), c ∉ l → sp c now l = [now ++ l]
  | [], now, h => by rw [List.append_nil]; rfl
  | x :: r, now, h => by
    have hx : ¬ x = c := fun e => h (by rw [e]; exact List.mem_cons_self)
    rw [sp, if_neg hx, sp_no c r _ (fun q => h (List.mem_cons_of_mem _ q)), List.append_assoc]; rfl
theorem sp_at (c : UInt8) : ∀ (a r now : List UInt8), c ∉ a → sp c now (a ++ c :: r) = (now ++ a) :: sp c [] r
  | [], r, now, h => by rw [List.nil_append, sp, if_pos rfl, List.append_nil]
  | x :: a, r, now, h => by
    have hx : ¬ x = c := fun e => h (by rw [e]; exact List.mem_cons_self)
    rw [List.cons_append, sp, if_neg hx, sp_at c a r _ (fun q => h (List.mem_cons_of_mem _ q)), List.append_assoc]; rfl
theorem splitK_sp (c : UInt8) : ∀ (k : Nat) (l : List UInt8), l.count c ≤ k → Lib.splitK [c] 0 k l = sp c [] l
  | 0, l, h => by
    have hn : c ∉ l := fun hm => by have := List.count_pos_iff.2 hm; omega
    rw [sp_no c l [] hn, List.nil_append]
    rfl
  | k + 1, l, h => by
    rw [Lib.splitK, Lib.index_one]
    rcases byte_cases l c with e | ⟨o, e⟩
    · rw [e, if_pos (by decide), sp_no c l [] (byte_none e)]; rfl
    · obtain ⟨h1, h2, h3⟩ := byte_some e
      rw [e, if_neg (by rw [beq_iff_eq]; omega), Int.toNat_natCast, Nat.add_zero]
      have hc : l.count c = (l.drop (o + 1)).count c + 1 := by
        conv => lhs; rw [h1]
        rw [List.count_append, List.count_eq_zero.2 h2, List.count_cons_self]; omega
      show l.take o :: Lib.splitK [c] 0 k (l.drop (o + 1)) = _
      rw [splitK_sp c k _ (by omega)]
      conv => rhs; rw [h1]
      rw [sp_at c _ _ [] h2]; rfl
theorem split_sp (s : ByteArray) (c : UInt8) : (splitS s ⟨#[c]⟩).map D = sp c [] (D s) := by
  unfold splitS
  have e : (Lib.splitB ⟨#[c]⟩ 0 (Lib.countB s ⟨#[c]⟩) s).map D = Lib.splitK [c] 0 (Lib.countB s ⟨#[c]⟩) (D s) := Lib.splitB_data ⟨#[c]⟩ 0 _ s
  rw [e, splitK_sp c _ (D s) (by rw [countB_cut]; exact Nat.le_refl _)]
def linesB (s : ByteArray) : List ByteArray := (sp 10 [] (D s)).map unw
theorem split_lines (s : ByteArray) : splitS s ⟨#[10]⟩ = linesB s := map_unw (split_sp s 10)
theorem sp_len (c : UInt8) : ∀ (l now : List UInt8), (sp c now l).length ≤ 1 + l.length ∧ ∀ x ∈ sp c now l, x.length ≤ now.length + l.length
  | [], now => by
    refine ⟨Nat.le_refl _, fun x hx => ?_⟩
    simp only [sp, List.mem_singleton] at hx
    subst hx; simp
  | y :: r, now => by
    rw [sp]
    split
    · obtain ⟨h1, h2⟩ := sp_len c r []
      refine ⟨by simp only [List.length_cons]; omega, fun x hx => ?_⟩
      rcases List.mem_cons.1 hx with rfl | hx
      · omega
      · have := h2 x hx
        simp only [List.length_cons, List.length_nil] at this ⊢; omega
    · obtain ⟨h1, h2⟩ := sp_len c r (now ++ [y])
      refine ⟨by simp only [List.length_cons]; omega, fun x hx => ?_⟩
      have := h2 x hx
      simp only [List.length_append, List.length_cons, List.length_nil] at this ⊢; omega
theorem lines_len (s : ByteArray) : (linesB s).length ≤ 1 + s.size := by
  unfold linesB
  rw [List.length_map, sz_D]
  exact (sp_len 10 (D s) []).1
theorem lines_sz {s x : ByteArray} (h : x ∈ linesB s) : x.size ≤ s.size := by
  obtain ⟨y, hy, rfl⟩ := List.mem_map.1 h
  have := (sp_len 10 (D s) []).2 y hy
  rw [sz_D, sz_D s]
  simp only [List.length_nil] at this
  show y.length ≤ _
  omega
theorem ext_D_is (s : ByteArray) (a b : Nat) (h : a ≤ b) : D (s.extract a b) = ((D s).drop a).take (b - a) := by
  show (s.extract a b).data.toList = _
  rw [Lib.extract_data]; rfl
def parseL : List ByteArray → Nat → List Stp → List Stp × Int × Int
  | [], _, out => (out, 0, 0)
  | l :: ls, i, out => if pieceB l = [] then parseL ls (i + 1) out
    else if (stepB (pieceB l)).1 = false ∨ out.length = 512 then ([], ((i : Int) + 1), 230)
    else parseL ls (i + 1) (out ++ [(stepB (pieceB l)).2])
def G3 (r : (List Stp × Int × Int) ⊕ (List Stp)) : List Stp × Int × Int := match r with
  | .inl e => e
  | .inr o => (o, 0, 0)
theorem parse_loop (L : List ByteArray) (hl : L.length ≤ 90000) (hb : ∀ x ∈ L, x.size ≤ 80000) : ∀ (d i : Nat) (hi : i + d = L.length) (out : List Stp) (ho : out.length ≤ 512),
    Ev (fun n => f11_script_Parse_L5 n out L ((L.length : Nat) : Int) (i : Int)) (fun r => G3 r = parseL (L.drop i) i out)
  | 0, i, hi, out, ho => by
    apply Ev.succ
    unfold f11_script_Parse_L5
    rw [List.drop_eq_nil_of_le (by omega)]
    exact Ev.neg (by simp only [decide_eq_true_eq]; omega) (Ev.some rfl)
  | d + 1, i, hi, out, ho => by
    have hx := hb _ (getD_mem (show i < L.length by omega) ByteArray.empty)
    have hdr : L.drop i = L.getD i ByteArray.empty :: L.drop (i + 1) := drop_cons (by omega) _
    have ih := fun out' ho' => parse_loop L hl hb d (i + 1) (by omega) out' ho'
    apply Ev.succ
    unfold f11_script_Parse_L5
    rw [i64_id (e := (i : Int) + 1) (by omega) (by omega), Int.toNat_natCast, hdr, parseL]
    generalize L.getD i ByteArray.empty = x at hx
    refine Ev.pos (by simp only [decide_eq_true_eq]; omega) (Ev.guard (by omega) (Ev.bind (pieceB_ev x (by omega)) ?_))
    rintro _ rfl
    have hpl := pieceB_len x
    have hpb : ∀ y ∈ pieceB x, y.size ≤ 90000 := fun y hy => by have := pieceB_sz hy; omega
    refine Ev.ite (fun c => ?_) (fun c => ?_)
    · have c : pieceB x = [] := List.eq_nil_of_length_eq_zero (by simp only [beq_iff_eq] at c; omega)
      rw [if_pos c]
      exact ih out ho
    · have c : ¬ (pieceB x).length = 0 := by simp only [beq_iff_eq] at c; omega
      rw [if_neg (fun e => c (by rw [e]; rfl))]
      refine Ev.bind (step_ev (pieceB x) (by omega) (by omega) hpb) ?_
      rintro _ rfl
      generalize stepB (pieceB x) = v
      refine Ev.ite (fun c1 => Ev.some ?_) (fun c1 => Ev.ite (fun c2 => Ev.some ?_) (fun c2 => Ev.guard (by simp only [List.length_singleton, maxLen]; omega) ?_))
      · rw [if_pos (.inl (by simpa using c1))]; rfl
      · rw [if_pos (.inr (by simp only [beq_iff_eq] at c2; omega))]; rfl
      · have c2 : ¬ out.length = 512 := by simp only [beq_iff_eq] at c2; omega
        rw [if_neg (by rintro (q | q); exact c1 (by rw [q]; rfl); exact c2 q)]
        exact ih _ (by simp; omega)
/-- The steps of a text, or the line that is wrong. -/
def parseT (s : ByteArray) : List Stp × Int × Int := if s.size > 65536 then ([], 0, 230) else parseL (linesB s) 0 []
theorem parseT_ev (s : ByteArray) (hs : s.size ≤ 9223372036854775807) : Ev (fun n => f11_script_Parse n s) (fun r => r = parseT s) := by
  unfold f11_script_Parse parseT
  refine Ev.ite (fun c => Ev.some ?_) (fun c => ?_)
  · simp only [decide_eq_true_eq] at c
    rw [if_pos (by omega)]
  simp only [decide_eq_true_eq] at c
  rw [if_neg (by omega)]
  refine Ev.bind (P := fun r => r = linesB s) ?_ ?_
  · unfold f45_strings_Split
    exact Ev.pos ⟨rfl, by omega⟩ (Ev.some (split_lines s))
  rintro _ rfl
  have h1 := lines_len s
  refine Ev.bind (parse_loop (linesB s) (by omega) (fun x hx => by have := lines_sz hx; omega) (linesB s).length 0 (by omega) [] (by simp)) ?_
  intro r hr
  rw [List.drop_zero] at hr
  rcases r with e | e
  · exact Ev.some hr
  · exact Ev.some hr
theorem parseL_len : ∀ (L : List ByteArray) (i : Nat) (out : List Stp) (ho : out.length ≤ 512), (parseL L i out).1.length ≤ 512
  | [], i, out, ho => ho
  | l :: ls, i, out, ho => by
    rw [parseL]
    split
    · exact parseL_len ls _ _ ho
    · split
      · simp
      · rename_i c
        exact parseL_len ls _ _ (by simp only [List.length_append, List.length_singleton]; have := fun e => c (.inr e); omega)
theorem parseT_len (s : ByteArray) : (parseT s).1.length ≤ 512 := by
  unfold parseT
  split
  · simp
  · exact parseL_len _ _ _ (by simp)
theorem same_loop (a : List Stp) (hl : a.length ≤ 100000) : ∀ (d i : Nat) (hi : i + d = a.length), Ev (fun n => f13_broughamref25_Same_L4 n a a (i : Int)) (fun w => w = .inr ())
  | 0, i, hi => by
    apply Ev.succ
    unfold f13_broughamref25_Same_L4
    exact Ev.neg (by simp only [decide_eq_true_eq]; omega) (Ev.some rfl)
  | d + 1, i, hi => by
    apply Ev.succ
    unfold f13_broughamref25_Same_L4
    rw [Int.toNat_natCast, i64_id (e := (i : Int) + 1) (by omega) (by omega)]
    refine Ev.pos (by simp only [decide_eq_true_eq]; omega) (Ev.guard (by omega) (Ev.guard (by omega) ?_))
    exact Ev.neg (by simp) (Ev.neg (by simp) (Ev.neg (by simp) (Ev.neg (by simp) (Ev.neg (by simp) (Ev.neg (by simp) (Ev.neg (by simp) (same_loop a hl d (i + 1) (by omega))))))))
theorem same_ev (a : List Stp) (hl : a.length ≤ 100000) : Ev (fun n => f13_broughamref25_Same n a a) (fun r => r = true) := by
  unfold f13_broughamref25_Same
  refine Ev.neg (by simp) (Ev.bind (same_loop a hl a.length 0 (by omega)) ?_)
  rintro _ rfl
  exact Ev.some rfl
theorem alive_ev : Ev (fun n => f14_broughamlaw25_alive n) (fun r => r = true) := Ev.at 60 (fun m => by kernel_rfl) rfl
def getC (c : UInt8) (s : Stp) : Int := if c = 104 then s.2.1 else if c = 110 then s.2.2.1 else if c = 112 then s.2.2.2.1 else if c = 119 then s.2.2.2.2.1 else s.2.2.2.2.2.1
abbrev byt (s : Stp) : List Int := s.2.2.2.2.2.2
def fieldOK (p : List UInt8) (s : Stp) (c : UInt8) : Bool := decide (0 ≤ getC c s ∧ getC c s ≤ 2147483647 ∧ (getC c s = 0 ∨ c ∈ p))
def chs : List UInt8 := [104, 110, 112, 119, 107]
def rightS (s : Stp) : Bool := decide (1 ≤ s.1 ∧ s.1 ≤ 16) && (chs.all (fieldOK (D (pt s.1.toNat)) s) && (decide (byt s = []) || decide ((98 : UInt8) ∈ D (pt s.1.toNat))))
theorem idx_lt {l : List UInt8} {c : UInt8} : Lib.indexByte l c < 0 ↔ c ∉ l := by
  rcases byte_cases l c with e | ⟨o, e⟩
  · rw [e]; exact ⟨fun _ => byte_none e, fun _ => by decide⟩
  · obtain ⟨h1, h2, h3⟩ := byte_some e
    refine ⟨fun h => by omega, fun h => absurd ?_ h⟩
    rw [h1]; exact List.mem_append_right _ List.mem_cons_self
theorem idx_ev (x : ByteArray) (c : UInt8) : Ev (fun _ => f72_strings_IndexByte x (c.toNat : Int)) (fun r => r < 0 ↔ c ∉ D x) := by
  unfold f72_strings_IndexByte
  rw [Int.toNat_natCast]
  have e : c.toNat.toUInt8 = c := by
    apply UInt8.toNat_inj.1
    have := c.toNat_lt
    simp
  rw [e]
  exact Ev.some idx_lt
theorem chs_mem {i : Nat} (h : i < 5) : chs.getD i 0 = 104 ∨ chs.getD i 0 = 110 ∨ chs.getD i 0 = 112 ∨ chs.getD i 0 = 119 ∨ chs.getD i 0 = 107 := by
  match i with
  | 0 => exact .inl rfl
  | 1 => exact .inr (.inl rfl)
  | 2 => exact .inr (.inr (.inl rfl))
  | 3 => exact .inr (.inr (.inr (.inl rfl)))
  | 4 => exact .inr (.inr (.inr (.inr rfl)))
  | i + 5 => omega
theorem chs_int {i : Nat} (h : i < 5) : ([104, 110, 112, 119, 107] : List Int).getD i 0 = ((chs.getD i 0).toNat : Int) := by
  match i with
  | 0 => rfl
  | 1 => rfl
  | 2 => rfl
  | 3 => rfl
  | 4 => rfl
  | i + 5 => omega
theorem chs_byte {i : Nat} (h : i < 5) : byteAt (⟨#[104, 110, 112, 119, 107]⟩ : ByteArray) (i : Int) = ((chs.getD i 0).toNat : Int) := by
  match i with
  | 0 => rfl
  | 1 => rfl
  | 2 => rfl
  | 3 => rfl
  | 4 => rfl
  | i + 5 => omega
theorem field_yes {p : List UInt8} {s : Stp} {c : UInt8} (h1 : 0 ≤ getC c s) (h2 : getC c s ≤ 2147483647) (h3 : getC c s = 0 ∨ c ∈ p) : fieldOK p s c = true := decide_eq_true ⟨h1, h2, h3⟩
theorem field_no {p : List UInt8} {s : Stp} {c : UInt8} (h : ¬ (0 ≤ getC c s ∧ getC c s ≤ 2147483647 ∧ (getC c s = 0 ∨ c ∈ p))) : fieldOK p s c = false := decide_eq_false h
def R5 (names : ByteArray) (s : Stp) (b : Bool) : Bool ⊕ (ByteArray × Stp) := if b = true then .inr (names, s) else .inl false
theorem apart_h (s : Stp) : Ev (fun _ => Go.Proofs.YtakamchmiakicaaDoorF25a.f71_script_part ((104 : UInt8).toNat : Int) s.1 s.2.1 s.2.2.1 s.2.2.2.1 s.2.2.2.2.1 s.2.2.2.2.2.1 s.2.2.2.2.2.2) (fun r => r = .inl s) := Ev.some rfl
theorem apart_n (s : Stp) : Ev (fun _ => Go.Proofs.YtakamchmiakicaaDoorF25a.f71_script_part ((110 : UInt8).toNat : Int) s.1 s.2.1 s.2.2.1 s.2.2.2.1 s.2.2.2.2.1 s.2.2.2.2.2.1 s.2.2.2.2.2.2) (fun r => r = .inr (.inl s)) := Ev.some rfl
theorem apart_p (s : Stp) : Ev (fun _ => Go.Proofs.YtakamchmiakicaaDoorF25a.f71_script_part ((112 : UInt8).toNat : Int) s.1 s.2.1 s.2.2.1 s.2.2.2.1 s.2.2.2.2.1 s.2.2.2.2.2.1 s.2.2.2.2.2.2) (fun r => r = .inr (.inr (.inl s))) := Ev.some rfl
theorem apart_w (s : Stp) : Ev (fun _ => Go.Proofs.YtakamchmiakicaaDoorF25a.f71_script_part ((119 : UInt8).toNat : Int) s.1 s.2.1 s.2.2.1 s.2.2.2.1 s.2.2.2.2.1 s.2.2.2.2.2.1 s.2.2.2.2.2.2) (fun r => r = .inr (.inr (.inr (.inl s)))) := Ev.some rfl
theorem apart_k (s : Stp) : Ev (fun _ => Go.Proofs.YtakamchmiakicaaDoorF25a.f71_script_part ((107 : UInt8).toNat : Int) s.1 s.2.1 s.2.2.1 s.2.2.2.1 s.2.2.2.2.1 s.2.2.2.2.2.1 s.2.2.2.2.2.2) (fun r => r = .inr (.inr (.inr (.inr (.inl s))))) := Ev.some rfl
theorem apart_b (s : Stp) : Ev (fun _ => Go.Proofs.YtakamchmiakicaaDoorF25a.f71_script_part ((98 : UInt8).toNat : Int) s.1 s.2.1 s.2.2.1 s.2.2.2.1 s.2.2.2.2.1 s.2.2.2.2.2.1 s.2.2.2.2.2.2) (fun r => r = .inr (.inr (.inr (.inr (.inr s))))) := Ev.some rfl
theorem aright_loop (names : ByteArray) (s : Stp) : ∀ (d i : Nat) (hi : i + d = 5),
    Ev (fun n => Go.Proofs.YtakamchmiakicaaDoorF25a.f43_script_Right_L5 n names [104, 110, 112, 119, 107] (([104, 110, 112, 119, 107].length : Nat) : Int) (i : Int) s.1 s.2.1 s.2.2.1 s.2.2.2.1 s.2.2.2.2.1 s.2.2.2.2.2.1 s.2.2.2.2.2.2) (fun w => w = R5 names s ((chs.drop i).all (fieldOK (D names) s)))
  | 0, i, hi => by
    obtain rfl : i = 5 := by omega
    apply Ev.succ
    unfold Go.Proofs.YtakamchmiakicaaDoorF25a.f43_script_Right_L5
    exact Ev.neg (by decide) (Ev.some rfl)
  | d + 1, i, hi => by
    have hc := chs_mem (show i < 5 by omega)
    have hg := chs_int (show i < 5 by omega)
    have ih := aright_loop names s d (i + 1) (by omega)
    have hd : chs.drop i = chs.getD i 0 :: chs.drop (i + 1) := drop_cons (show i < 5 by omega) _
    apply Ev.succ
    unfold Go.Proofs.YtakamchmiakicaaDoorF25a.f43_script_Right_L5
    rw [Int.toNat_natCast, hg, hd, List.all_cons, i64_id (e := (i : Int) + 1) (by omega) (by omega)]
    have hl : ([104, 110, 112, 119, 107] : List Int).length = 5 := rfl
    generalize chs.getD i 0 = c at hc
    refine Ev.pos (decide_eq_true (show (i : Int) < ((5 : Nat) : Int) by omega)) (Ev.guard (show (0 : Int) ≤ (i : Int) ∧ (i : Int) < ((5 : Nat) : Int) by omega) ?_)
    rcases hc with rfl | rfl | rfl | rfl | rfl
    · refine Ev.bind (apart_h s) ?_
      rintro _ rfl
      have e : getC 104 s = s.2.1 := rfl
      refine Ev.ite (fun c1 => Ev.some ?_) (fun c1 => Ev.ite (fun c2 => Ev.some ?_) (fun c2 => Ev.ite (fun c3 => Ev.bind (idx_ev names 104) (fun r hr => Ev.ite (fun c4 => Ev.some ?_) (fun c4 => ?_))) (fun c3 => ?_)))
      · simp only [decide_eq_true_eq] at c1
        rw [field_no (by rw [e]; omega)]; rfl
      · simp only [decide_eq_true_eq] at c2
        rw [field_no (by rw [e]; omega)]; rfl
      · simp only [decide_eq_true_eq] at c4
        simp only [bne_iff_ne, ne_eq] at c3
        rw [field_no (by rw [e]; rintro ⟨_, _, q | q⟩; exact c3 q; exact (hr.1 c4) q)]; rfl
      · simp only [decide_eq_true_eq] at c1 c2 c4
        rw [field_yes (by rw [e]; omega) (by rw [e]; omega) (.inr (Classical.byContradiction fun q => c4 (hr.2 q)))]
        exact ih
      · simp only [decide_eq_true_eq] at c1 c2
        simp only [bne_iff_ne, ne_eq, Decidable.not_not] at c3
        rw [field_yes (by rw [e]; omega) (by rw [e]; omega) (.inl (by rw [e]; exact c3))]
        exact ih
    · refine Ev.bind (apart_n s) ?_
      rintro _ rfl
      have e : getC 110 s = s.2.2.1 := rfl
      refine Ev.ite (fun c1 => Ev.some ?_) (fun c1 => Ev.ite (fun c2 => Ev.some ?_) (fun c2 => Ev.ite (fun c3 => Ev.bind (idx_ev names 110) (fun r hr => Ev.ite (fun c4 => Ev.some ?_) (fun c4 => ?_))) (fun c3 => ?_)))
      · simp only [decide_eq_true_eq] at c1
        rw [field_no (by rw [e]; omega)]; rfl
      · simp only [decide_eq_true_eq] at c2
        rw [field_no (by rw [e]; omega)]; rfl
      · simp only [decide_eq_true_eq] at c4
        simp only [bne_iff_ne, ne_eq] at c3
        rw [field_no (by rw [e]; rintro ⟨_, _, q | q⟩; exact c3 q; exact (hr.1 c4) q)]; rfl
      · simp only [decide_eq_true_eq] at c1 c2 c4
        rw [field_yes (by rw [e]; omega) (by rw [e]; omega) (.inr (Classical.byContradiction fun q => c4 (hr.2 q)))]
        exact ih
      · simp only [decide_eq_true_eq] at c1 c2
        simp only [bne_iff_ne, ne_eq, Decidable.not_not] at c3
        rw [field_yes (by rw [e]; omega) (by rw [e]; omega) (.inl (by rw [e]; exact c3))]
        exact ih
    · refine Ev.bind (apart_p s) ?_
      rintro _ rfl
      have e : getC 112 s = s.2.2.2.1 := rfl
      refine Ev.ite (fun c1 => Ev.some ?_) (fun c1 => Ev.ite (fun c2 => Ev.some ?_) (fun c2 => Ev.ite (fun c3 => Ev.bind (idx_ev names 112) (fun r hr => Ev.ite (fun c4 => Ev.some ?_) (fun c4 => ?_))) (fun c3 => ?_)))
      · simp only [decide_eq_true_eq] at c1
        rw [field_no (by rw [e]; omega)]; rfl
      · simp only [decide_eq_true_eq] at c2
        rw [field_no (by rw [e]; omega)]; rfl
      · simp only [decide_eq_true_eq] at c4
        simp only [bne_iff_ne, ne_eq] at c3
        rw [field_no (by rw [e]; rintro ⟨_, _, q | q⟩; exact c3 q; exact (hr.1 c4) q)]; rfl
      · simp only [decide_eq_true_eq] at c1 c2 c4
        rw [field_yes (by rw [e]; omega) (by rw [e]; omega) (.inr (Classical.byContradiction fun q => c4 (hr.2 q)))]
        exact ih
      · simp only [decide_eq_true_eq] at c1 c2
        simp only [bne_iff_ne, ne_eq, Decidable.not_not] at c3
        rw [field_yes (by rw [e]; omega) (by rw [e]; omega) (.inl (by rw [e]; exact c3))]
        exact ih
    · refine Ev.bind (apart_w s) ?_
      rintro _ rfl
      have e : getC 119 s = s.2.2.2.2.1 := rfl
      refine Ev.ite (fun c1 => Ev.some ?_) (fun c1 => Ev.ite (fun c2 => Ev.some ?_) (fun c2 => Ev.ite (fun c3 => Ev.bind (idx_ev names 119) (fun r hr => Ev.ite (fun c4 => Ev.some ?_) (fun c4 => ?_))) (fun c3 => ?_)))
      · simp only [decide_eq_true_eq] at c1
        rw [field_no (by rw [e]; omega)]; rfl
      · simp only [decide_eq_true_eq] at c2
        rw [field_no (by rw [e]; omega)]; rfl
      · simp only [decide_eq_true_eq] at c4
        simp only [bne_iff_ne, ne_eq] at c3
        rw [field_no (by rw [e]; rintro ⟨_, _, q | q⟩; exact c3 q; exact (hr.1 c4) q)]; rfl
      · simp only [decide_eq_true_eq] at c1 c2 c4
        rw [field_yes (by rw [e]; omega) (by rw [e]; omega) (.inr (Classical.byContradiction fun q => c4 (hr.2 q)))]
        exact ih
      · simp only [decide_eq_true_eq] at c1 c2
        simp only [bne_iff_ne, ne_eq, Decidable.not_not] at c3
        rw [field_yes (by rw [e]; omega) (by rw [e]; omega) (.inl (by rw [e]; exact c3))]
        exact ih
    · refine Ev.bind (apart_k s) ?_
      rintro _ rfl
      have e : getC 107 s = s.2.2.2.2.2.1 := rfl
      refine Ev.ite (fun c1 => Ev.some ?_) (fun c1 => Ev.ite (fun c2 => Ev.some ?_) (fun c2 => Ev.ite (fun c3 => Ev.bind (idx_ev names 107) (fun r hr => Ev.ite (fun c4 => Ev.some ?_) (fun c4 => ?_))) (fun c3 => ?_)))
      · simp only [decide_eq_true_eq] at c1
        rw [field_no (by rw [e]; omega)]; rfl
      · simp only [decide_eq_true_eq] at c2
        rw [field_no (by rw [e]; omega)]; rfl
      · simp only [decide_eq_true_eq] at c4
        simp only [bne_iff_ne, ne_eq] at c3
        rw [field_no (by rw [e]; rintro ⟨_, _, q | q⟩; exact c3 q; exact (hr.1 c4) q)]; rfl
      · simp only [decide_eq_true_eq] at c1 c2 c4
        rw [field_yes (by rw [e]; omega) (by rw [e]; omega) (.inr (Classical.byContradiction fun q => c4 (hr.2 q)))]
        exact ih
      · simp only [decide_eq_true_eq] at c1 c2
        simp only [bne_iff_ne, ne_eq, Decidable.not_not] at c3
        rw [field_yes (by rw [e]; omega) (by rw [e]; omega) (.inl (by rw [e]; exact c3))]
        exact ih
theorem aright_ev (s : Stp) : Ev (fun n => Go.Proofs.YtakamchmiakicaaDoorF25a.f43_script_Right n s.1 s.2.1 s.2.2.1 s.2.2.2.1 s.2.2.2.2.1 s.2.2.2.2.2.1 s.2.2.2.2.2.2) (fun r => r = rightS s) := by
  unfold Go.Proofs.YtakamchmiakicaaDoorF25a.f43_script_Right rightS
  refine Ev.ite (fun c => Ev.some ?_) (fun c => Ev.ite (fun c2 => Ev.some ?_) (fun c2 => ?_))
  · simp only [decide_eq_true_eq] at c
    rw [decide_eq_false (by omega)]; rfl
  · simp only [decide_eq_true_eq] at c2
    rw [decide_eq_false (by omega)]; rfl
  simp only [decide_eq_true_eq] at c c2
  rw [decide_eq_true (show 1 ≤ s.1 ∧ s.1 ≤ 16 by omega)]
  refine Ev.bind (P := fun r => r = Option.get Go.Proofs.YtakamchmiakicaaDoorF25a.f70_script_shapes rfl) (Ev.some rfl) ?_
  rintro _ rfl
  refine Ev.guard (by omega) (Ev.bind (aright_loop (pt s.1.toNat) s 5 0 rfl) ?_)
  rintro _ rfl
  rw [List.drop_zero]
  unfold R5
  cases hb : chs.all (fieldOK (D (pt s.1.toNat)) s) with
  | false => exact Ev.some rfl
  | true =>
    refine Ev.ite (fun c3 => Ev.some ?_) (fun c3 => Ev.bind (idx_ev (pt s.1.toNat) 98) (fun r hr => Ev.some ?_))
    · simp only [beq_iff_eq] at c3
      rw [decide_eq_true (show byt s = [] from List.eq_nil_of_length_eq_zero (by have : ((byt s).length : Int) = 0 := c3; omega))]; rfl
    · simp only [beq_iff_eq] at c3
      rw [decide_eq_false (show ¬ byt s = [] from fun q => c3 (by have : byt s = s.2.2.2.2.2.2 := rfl; rw [this] at q; show ((s.2.2.2.2.2.2.length : Nat) : Int) = 0; rw [q]; rfl))]
      by_cases q : (98 : UInt8) ∈ D (pt s.1.toNat)
      · rw [decide_eq_true q, decide_eq_true (show r ≥ 0 by have : ¬ r < 0 := fun w => hr.1 w q; omega)]; rfl
      · rw [decide_eq_false q, decide_eq_false (show ¬ r ≥ 0 by have := hr.2 q; omega)]; rfl

/-- A part's text. -/
def fldT (s : Stp) (c : UInt8) : List UInt8 := if c = 98 then D (hexB (byt s)) else textL (getC c s).toNat
def lineS (s : Stp) : List UInt8 := Lib.join (D (wd s.1.toNat) :: (D (pt s.1.toNat)).map (fldT s)) [32]
/-- What a step's writing asks of it. -/
def Good (s : Stp) : Prop := Bytes (byt s) ∧ (byt s).length ≤ 90000
theorem hex_ne (b : List Int) : D (hexB b) ≠ [] := by
  unfold hexB
  split
  · decide
  · rename_i h
    intro e
    have e2 : hexL (b.map fun x => x.toNat.toUInt8) = [] := e
    have hlen := hexL_len (b.map fun x => x.toNat.toUInt8)
    rw [e2, List.length_map, List.length_nil] at hlen
    exact h (List.eq_nil_of_length_eq_zero (by omega))
theorem hex_sz (b : List Int) : (D (hexB b)).length ≤ 2 * b.length + 1 := by
  unfold hexB
  split
  · show 1 ≤ _; omega
  · have hlen := hexL_len (b.map fun x => x.toNat.toUInt8)
    rw [List.length_map] at hlen
    show (hexL _).length ≤ _
    omega
theorem fld_ne (s : Stp) (c : UInt8) (h : getC c s ≤ 2147483647) : fldT s c ≠ [] := by
  unfold fldT
  split
  · exact hex_ne _
  · exact (textL_canon (getC c s).toNat (by omega)).1.2.1
theorem fld_len (s : Stp) (c : UInt8) (h : (byt s).length ≤ 90000) : (fldT s c).length ≤ 180001 := by
  unfold fldT
  split
  · have := hex_sz (byt s); omega
  · have := textF_len 20 (getC c s).toNat
    show (textF 20 _).length ≤ _; omega
theorem wd_fin : ∀ k : Fin 17, 1 ≤ k.val → D (wd k.val) ≠ [] ∧ (D (wd k.val)).length ≤ 7 := by decide
theorem wd_ne {k : Nat} (h1 : 1 ≤ k) (h : k < 17) : D (wd k) ≠ [] := (wd_fin ⟨k, h⟩ h1).1
theorem wd_len {k : Nat} (h1 : 1 ≤ k) (h : k < 17) : (D (wd k)).length ≤ 7 := (wd_fin ⟨k, h⟩ h1).2
theorem sum_le {l : List (List UInt8)} {m : Nat} (h : ∀ x ∈ l, x.length ≤ m) : (l.map List.length).sum ≤ l.length * m := by
  induction l with
  | nil => exact Nat.zero_le _
  | cons y l ih =>
    have h1 := ih (fun x hx => h x (List.mem_cons_of_mem _ hx))
    have h2 := h y List.mem_cons_self
    rw [List.map_cons, List.sum_cons, List.length_cons, Nat.succ_mul]; omega
theorem right_parts {s : Stp} (h : rightS s = true) : (1 ≤ s.1 ∧ s.1 ≤ 16) ∧ (∀ c ∈ chs, fieldOK (D (pt s.1.toNat)) s c = true) ∧ (byt s = [] ∨ (98 : UInt8) ∈ D (pt s.1.toNat)) := by
  unfold rightS at h
  simp only [Bool.and_eq_true, decide_eq_true_eq, Bool.or_eq_true, List.all_eq_true] at h
  exact ⟨h.1, h.2.1, h.2.2⟩
theorem right_get {s : Stp} (h : rightS s = true) {c : UInt8} (hc : c = 104 ∨ c = 110 ∨ c = 112 ∨ c = 119 ∨ c = 107) : 0 ≤ getC c s ∧ getC c s ≤ 2147483647 ∧ (getC c s = 0 ∨ c ∈ D (pt s.1.toNat)) := by
  have := (right_parts h).2.1 c (by unfold chs; simpa using hc)
  exact of_decide_eq_true this
theorem right_fld {s : Stp} (h : rightS s = true) {c : UInt8} (hc : c ∈ D (pt s.1.toNat)) : fldT s c ≠ [] := by
  have h1 := (right_parts h).1
  rcases alf_pt (show s.1.toNat < 17 by omega) c hc with e | e | e | e | e | e
  · exact fld_ne s c (right_get h (.inl e)).2.1
  · exact fld_ne s c (right_get h (.inr (.inl e))).2.1
  · exact fld_ne s c (right_get h (.inr (.inr (.inl e)))).2.1
  · exact fld_ne s c (right_get h (.inr (.inr (.inr (.inl e))))).2.1
  · exact fld_ne s c (right_get h (.inr (.inr (.inr (.inr e))))).2.1
  · subst e
    exact hex_ne _
theorem lineS_len {s : Stp} (h : 1 ≤ s.1 ∧ s.1 ≤ 16) (hg : Good s) : (lineS s).length ≤ 1000000 := by
  unfold lineS
  have h1 := join_len (D (wd s.1.toNat) :: (D (pt s.1.toNat)).map (fldT s))
  have h2 : (((D (pt s.1.toNat)).map (fldT s)).map List.length).sum ≤ ((D (pt s.1.toNat)).map (fldT s)).length * 180001 := by
    refine sum_le (fun x hx => ?_)
    obtain ⟨c, hc, rfl⟩ := List.mem_map.1 hx
    exact fld_len s c hg.2
  have h3 := wd_len (show 1 ≤ s.1.toNat by omega) (show s.1.toNat < 17 by omega)
  have h4 := pt_sz (show s.1.toNat < 17 by omega)
  rw [sz_D] at h4
  rw [List.map_cons, List.sum_cons, List.length_cons, List.length_map] at h1
  rw [List.length_map] at h2
  have h5 := Nat.mul_le_mul_right 180001 h4
  omega
/-! script.line. -/
def bfld (s : Stp) (c : UInt8) : ByteArray := if c = 98 then hexB (byt s) else textB (getC c s)
theorem bfld_D (s : Stp) (c : UInt8) : D (bfld s c) = fldT s c := by
  unfold bfld fldT
  split
  · rfl
  · rfl
theorem aline_loop (s : Stp) (q x0 : ByteArray) (ha : Alf (D q)) (hq : q.size ≤ 4) (hg : Good s) (hr : ∀ c, c = 104 ∨ c = 110 ∨ c = 112 ∨ c = 119 ∨ c = 107 → 0 ≤ getC c s ∧ getC c s ≤ 2147483647) : ∀ (d i : Nat) (hi : i + d = q.size) (w : List ByteArray) (hw : w.length ≤ i + 1),
    Ev (fun n => Go.Proofs.YtakamchmiakicaaDoorF25a.f65_script_line_L4 n w ((q.size : Nat) : Int) (i : Int) s.1 s.2.1 s.2.2.1 s.2.2.2.1 s.2.2.2.2.1 s.2.2.2.2.2.1 s.2.2.2.2.2.2 x0 q) (fun r => r = w ++ ((D q).drop i).map (bfld s))
  | 0, i, hi, w, hw => by
    apply Ev.succ
    unfold Go.Proofs.YtakamchmiakicaaDoorF25a.f65_script_line_L4
    refine Ev.neg (by simp only [decide_eq_true_eq]; omega) (Ev.some ?_)
    rw [List.drop_eq_nil_of_le (by rw [← sz_D]; omega)]; simp
  | d + 1, i, hi, w, hw => by
    have hil : i < (D q).length := by rw [← sz_D]; omega
    have hbt : byteAt q (i : Int) = (((D q)[i]'hil).toNat : Int) := byte_at hil
    have hdrop : (D q).drop i = (D q)[i] :: (D q).drop (i + 1) := List.drop_eq_getElem_cons hil
    have hc := ha _ (List.getElem_mem hil)
    have ih := fun w' hw' => aline_loop s q x0 ha hq hg hr d (i + 1) (by omega) w' hw'
    apply Ev.succ
    unfold Go.Proofs.YtakamchmiakicaaDoorF25a.f65_script_line_L4
    rw [i64_id (e := (i : Int) + 1) (by omega) (by omega), hbt, hdrop]
    generalize (D q)[i] = c at hc
    refine Ev.pos (by simp only [decide_eq_true_eq]; omega) (Ev.guard (by omega) ?_)
    rcases hc with rfl | rfl | rfl | rfl | rfl | rfl
    · have hv : 0 ≤ s.2.1 ∧ s.2.1 ≤ 2147483647 := hr 104 (.inl rfl)
      refine Ev.bind (apart_h s) ?_
      rintro _ rfl
      refine Ev.bind (text_ev s.2.1 (by omega) (by omega)) ?_
      rintro _ rfl
      refine Ev.guard (by simp only [List.length_singleton, maxLen]; omega) ((ih _ (by simp; omega)).mono ?_)
      rintro _ rfl
      rw [List.append_assoc]; rfl
    · have hv : 0 ≤ s.2.2.1 ∧ s.2.2.1 ≤ 2147483647 := hr 110 (.inr (.inl rfl))
      refine Ev.bind (apart_n s) ?_
      rintro _ rfl
      refine Ev.bind (text_ev s.2.2.1 (by omega) (by omega)) ?_
      rintro _ rfl
      refine Ev.guard (by simp only [List.length_singleton, maxLen]; omega) ((ih _ (by simp; omega)).mono ?_)
      rintro _ rfl
      rw [List.append_assoc]; rfl
    · have hv : 0 ≤ s.2.2.2.1 ∧ s.2.2.2.1 ≤ 2147483647 := hr 112 (.inr (.inr (.inl rfl)))
      refine Ev.bind (apart_p s) ?_
      rintro _ rfl
      refine Ev.bind (text_ev s.2.2.2.1 (by omega) (by omega)) ?_
      rintro _ rfl
      refine Ev.guard (by simp only [List.length_singleton, maxLen]; omega) ((ih _ (by simp; omega)).mono ?_)
      rintro _ rfl
      rw [List.append_assoc]; rfl
    · have hv : 0 ≤ s.2.2.2.2.1 ∧ s.2.2.2.2.1 ≤ 2147483647 := hr 119 (.inr (.inr (.inr (.inl rfl))))
      refine Ev.bind (apart_w s) ?_
      rintro _ rfl
      refine Ev.bind (text_ev s.2.2.2.2.1 (by omega) (by omega)) ?_
      rintro _ rfl
      refine Ev.guard (by simp only [List.length_singleton, maxLen]; omega) ((ih _ (by simp; omega)).mono ?_)
      rintro _ rfl
      rw [List.append_assoc]; rfl
    · have hv : 0 ≤ s.2.2.2.2.2.1 ∧ s.2.2.2.2.2.1 ≤ 2147483647 := hr 107 (.inr (.inr (.inr (.inr rfl))))
      refine Ev.bind (apart_k s) ?_
      rintro _ rfl
      refine Ev.bind (text_ev s.2.2.2.2.2.1 (by omega) (by omega)) ?_
      rintro _ rfl
      refine Ev.guard (by simp only [List.length_singleton, maxLen]; omega) ((ih _ (by simp; omega)).mono ?_)
      rintro _ rfl
      rw [List.append_assoc]; rfl
    · refine Ev.bind (apart_b s) ?_
      rintro _ rfl
      refine Ev.bind (hex_ev s.2.2.2.2.2.2 hg.2 hg.1) ?_
      rintro _ rfl
      refine Ev.guard (by simp only [List.length_singleton, maxLen]; omega) ((ih _ (by simp; omega)).mono ?_)
      rintro _ rfl
      rw [List.append_assoc]; rfl
theorem aline_ev (s : Stp) (hs : rightS s = true) (hg : Good s) : Ev (fun n => Go.Proofs.YtakamchmiakicaaDoorF25a.f65_script_line n s.1 s.2.1 s.2.2.1 s.2.2.2.1 s.2.2.2.2.1 s.2.2.2.2.2.1 s.2.2.2.2.2.2) (fun r => r = unw (lineS s)) := by
  have hk := (right_parts hs).1
  have hk1 : 1 ≤ s.1.toNat := by omega
  have hk2 : s.1.toNat < 17 := by omega
  unfold Go.Proofs.YtakamchmiakicaaDoorF25a.f65_script_line
  refine Ev.bind (P := fun r => r = Option.get Go.Proofs.YtakamchmiakicaaDoorF25a.f70_script_shapes rfl) (Ev.some rfl) ?_
  rintro _ rfl
  refine Ev.guard (by omega) (Ev.bind (aline_loop s (pt s.1.toNat) (wd s.1.toNat) (alf_pt hk2) (pt_sz hk2) hg (fun c hc => ⟨(right_get hs hc).1, (right_get hs hc).2.1⟩) (pt s.1.toNat).size 0 (by omega) [wd s.1.toNat] (by simp)) ?_)
  rintro _ rfl
  rw [List.drop_zero]
  have hD : ([wd s.1.toNat] ++ (D (pt s.1.toNat)).map (bfld s)).map D = D (wd s.1.toNat) :: (D (pt s.1.toNat)).map (fldT s) := by
    rw [List.singleton_append, List.map_cons, List.map_map]
    congr 1
    exact List.map_congr_left fun c _ => bfld_D s c
  have hfil : fil (D (wd s.1.toNat) :: (D (pt s.1.toNat)).map (fldT s)) = D (wd s.1.toNat) :: (D (pt s.1.toNat)).map (fldT s) := by
    unfold fil
    rw [List.filter_eq_self]
    intro w hw
    simp only [ne_eq, decide_not, Bool.not_eq_eq_eq_not, Bool.not_true, decide_eq_false_iff_not]
    rcases List.mem_cons.1 hw with rfl | hw
    · exact wd_ne hk1 hk2
    · obtain ⟨c, hc, rfl⟩ := List.mem_map.1 hw
      exact right_fld hs hc
  have hl : D (lineB ([wd s.1.toNat] ++ (D (pt s.1.toNat)).map (bfld s))) = lineS s := by
    rw [line_Dj, hD, hfil]; rfl
  have hlen := lineS_len hk hg
  have hp := pt_sz hk2
  rw [sz_D] at hp
  refine Ev.bind (line_ev _ (by simp; omega) (by rw [sz_D, hl]; omega)) ?_
  rintro _ rfl
  exact Ev.some (ext_D hl)
/-! The document's. -/
theorem join_tail_cons (x : List UInt8) (r : List (List UInt8)) : Lib.joinTail [32] (x :: r) = 32 :: (x ++ Lib.joinTail [32] r) := by simp [Lib.joinTail]
def textS : List Stp → List UInt8 → ByteArray × Int
  | [], acc => (unw acc, 0)
  | s :: r, acc => if rightS s = true then (if (acc ++ lineS s ++ [10]).length > 65536 then (⟨#[]⟩, 230) else textS r (acc ++ lineS s ++ [10])) else (⟨#[]⟩, 230)
def textT (l : List Stp) : ByteArray × Int := if l.length > 512 then (⟨#[]⟩, 230) else textS l []
theorem textR_ev : ∀ (l : List Stp) (hg : ∀ x ∈ l, Good x) (acc : List UInt8), Ev (fun n => Go.Proofs.YtakamchmiakicaaDoorSText.textR n l acc) (fun r => r = textS l acc)
  | [], hg, acc => Ev.some rfl
  | s :: r, hg, acc => by
    have ih := fun acc => textR_ev r (fun x hx => hg x (List.mem_cons_of_mem _ hx)) acc
    have hgs := hg s List.mem_cons_self
    unfold Go.Proofs.YtakamchmiakicaaDoorSText.textR
    rw [textS]
    refine Ev.bind (aright_ev s) ?_
    rintro _ rfl
    cases hb : rightS s with
    | false => exact Ev.neg (by decide) (Ev.some rfl)
    | true =>
      refine Ev.pos rfl (Ev.bind (aline_ev s hb hgs) ?_)
      rintro _ rfl
      have hlen := lineS_len (right_parts hb).1 hgs
      have e : (unw (lineS s)).data.toList = lineS s := rfl
      rw [e, if_pos rfl]
      refine Ev.guard (by rw [sz_D]; show (lineS s).length ≤ _; omega) ?_
      refine Ev.ite (fun c => Ev.some ?_) (fun c => ?_)
      · rw [if_pos c]
      · rw [if_neg c]; exact ih _
theorem text_ev2 (l : List Stp) (hg : ∀ x ∈ l, Good x) : Ev (fun n => Go.Proofs.YtakamchmiakicaaDoorSText.f40_script_Text n l) (fun r => r = textT l) := by
  unfold Go.Proofs.YtakamchmiakicaaDoorSText.f40_script_Text textT
  refine Ev.ite (fun c => Ev.some ?_) (fun c => ?_)
  · rw [if_pos c]
  · rw [if_neg c]; exact textR_ev l hg []
def G4 (r : (ByteArray × Int) ⊕ ByteArray) : ByteArray × Int := match r with
  | .inl e => e
  | .inr s => (s, 0)
def sameE (x y : Stp) : Bool := decide (x.1 = y.1 ∧ x.2.1 = y.2.1 ∧ x.2.2.1 = y.2.2.1 ∧ x.2.2.2.1 = y.2.2.2.1 ∧ x.2.2.2.2.1 = y.2.2.2.2.1 ∧ x.2.2.2.2.2.1 = y.2.2.2.2.2.1 ∧ D (strOfNums x.2.2.2.2.2.2) = D (strOfNums y.2.2.2.2.2.2))
def sameF (a b : List Stp) : Nat → Nat → Bool
  | 0, _ => true
  | d + 1, i => sameE (a.getD i (0, (0, (0, (0, (0, (0, []))))))) (b.getD i (0, (0, (0, (0, (0, (0, []))))))) && sameF a b d (i + 1)
def U2 (b : Bool) : Bool ⊕ Unit := if b = true then .inr () else .inl false
theorem same_chain {F : Nat → Option (Bool ⊕ Unit)} {b : Bool} (x y : Stp) (ih : Ev F (fun w => w = U2 b)) :
    Ev (fun n => if (x.1 != y.1) = true then some (.inl false) else if (x.2.1 != y.2.1) = true then some (.inl false) else if (x.2.2.1 != y.2.2.1) = true then some (.inl false) else if (x.2.2.2.1 != y.2.2.2.1) = true then some (.inl false) else
      if (x.2.2.2.2.1 != y.2.2.2.2.1) = true then some (.inl false) else if (x.2.2.2.2.2.1 != y.2.2.2.2.2.1) = true then some (.inl false) else if (!((strOfNums x.2.2.2.2.2.2).toList == (strOfNums y.2.2.2.2.2.2).toList)) = true then some (.inl false) else F n) (fun w => w = U2 (sameE x y && b)) := by
  have no : ¬ (x.1 = y.1 ∧ x.2.1 = y.2.1 ∧ x.2.2.1 = y.2.2.1 ∧ x.2.2.2.1 = y.2.2.2.1 ∧ x.2.2.2.2.1 = y.2.2.2.2.1 ∧ x.2.2.2.2.2.1 = y.2.2.2.2.2.1 ∧ D (strOfNums x.2.2.2.2.2.2) = D (strOfNums y.2.2.2.2.2.2)) → Sum.inl false = U2 (sameE x y && b) := fun q => by
    unfold sameE; rw [decide_eq_false q]; rfl
  rw [str_dec]
  refine Ev.ite (fun c => Ev.some (no fun q => ?_)) (fun c1 => Ev.ite (fun c => Ev.some (no fun q => ?_)) (fun c2 => Ev.ite (fun c => Ev.some (no fun q => ?_)) (fun c3 => Ev.ite (fun c => Ev.some (no fun q => ?_)) (fun c4 => Ev.ite (fun c => Ev.some (no fun q => ?_)) (fun c5 => Ev.ite (fun c => Ev.some (no fun q => ?_)) (fun c6 => Ev.ite (fun c => Ev.some (no fun q => ?_)) (fun c7 => ?_)))))))
  · simp [q.1] at c
  · simp [q.2.1] at c
  · simp [q.2.2.1] at c
  · simp [q.2.2.2.1] at c
  · simp [q.2.2.2.2.1] at c
  · simp [q.2.2.2.2.2.1] at c
  · have q7 : (strOfNums x.2.2.2.2.2.2).data.toList = (strOfNums y.2.2.2.2.2.2).data.toList := q.2.2.2.2.2.2
    rw [decide_eq_true q7] at c; cases c
  · simp only [bne_iff_ne, ne_eq, Decidable.not_not, Bool.not_eq_true', decide_eq_false_iff_not] at c1 c2 c3 c4 c5 c6 c7
    have e : sameE x y = true := decide_eq_true ⟨c1, c2, c3, c4, c5, c6, c7⟩
    rw [e, Bool.true_and]
    exact ih
theorem refsame_loop (a b : List Stp) (hl : a.length = b.length) (ha : a.length ≤ 100000) : ∀ (d i : Nat) (hi : i + d = a.length), Ev (fun n => f13_broughamref25_Same_L4 n a b (i : Int)) (fun w => w = U2 (sameF a b d i))
  | 0, i, hi => by
    apply Ev.succ
    unfold f13_broughamref25_Same_L4
    exact Ev.neg (by simp only [decide_eq_true_eq]; omega) (Ev.some rfl)
  | d + 1, i, hi => by
    have ih := refsame_loop a b hl ha d (i + 1) (by omega)
    apply Ev.succ
    unfold f13_broughamref25_Same_L4
    rw [i64_id (e := (i : Int) + 1) (by omega) (by omega), Int.toNat_natCast]
    refine Ev.pos (by simp only [decide_eq_true_eq]; omega) (Ev.guard (by omega) (Ev.guard (by omega) ?_))
    exact same_chain (a.getD i (0, (0, (0, (0, (0, (0, []))))))) (b.getD i (0, (0, (0, (0, (0, (0, []))))))) ih
theorem psame_loop (a b : List Stp) (hl : a.length = b.length) (ha : a.length ≤ 100000) : ∀ (d i : Nat) (hi : i + d = a.length), Ev (fun n => f42_script_Same_L4 n b a ((a.length : Nat) : Int) (i : Int)) (fun w => w = U2 (sameF a b d i))
  | 0, i, hi => by
    apply Ev.succ
    unfold f42_script_Same_L4
    exact Ev.neg (by simp only [decide_eq_true_eq]; omega) (Ev.some rfl)
  | d + 1, i, hi => by
    have ih := psame_loop a b hl ha d (i + 1) (by omega)
    apply Ev.succ
    unfold f42_script_Same_L4
    rw [i64_id (e := (i : Int) + 1) (by omega) (by omega), Int.toNat_natCast]
    refine Ev.pos (by simp only [decide_eq_true_eq]; omega) (Ev.guard (by omega) (Ev.guard (by omega) ?_))
    exact same_chain (a.getD i (0, (0, (0, (0, (0, (0, []))))))) (b.getD i (0, (0, (0, (0, (0, (0, []))))))) ih
def sameS (a b : List Stp) : Bool := decide (a.length = b.length) && sameF a b a.length 0
theorem refsame_ev (a b : List Stp) (ha : a.length ≤ 100000) : Ev (fun n => f13_broughamref25_Same n a b) (fun r => r = sameS a b) := by
  unfold f13_broughamref25_Same sameS
  refine Ev.ite (fun c => Ev.some ?_) (fun c => ?_)
  · simp only [bne_iff_ne, ne_eq] at c
    rw [decide_eq_false (by omega)]; rfl
  · simp only [bne_iff_ne, ne_eq, Decidable.not_not] at c
    have hl : a.length = b.length := by omega
    rw [decide_eq_true hl, Bool.true_and]
    refine Ev.bind (refsame_loop a b hl ha a.length 0 (by omega)) ?_
    rintro _ rfl
    cases sameF a b a.length 0 with
    | false => exact Ev.some rfl
    | true => exact Ev.some rfl
theorem psame_ev (a b : List Stp) (ha : a.length ≤ 100000) : Ev (fun n => f42_script_Same n a b) (fun r => r = sameS a b) := by
  unfold f42_script_Same sameS
  refine Ev.ite (fun c => Ev.some ?_) (fun c => ?_)
  · simp only [bne_iff_ne, ne_eq] at c
    rw [decide_eq_false (by omega)]; rfl
  · simp only [bne_iff_ne, ne_eq, Decidable.not_not] at c
    have hl : a.length = b.length := by omega
    rw [decide_eq_true hl, Bool.true_and]
    refine Ev.bind (psame_loop a b hl ha a.length 0 (by omega)) ?_
    rintro _ rfl
    cases sameF a b a.length 0 with
    | false => exact Ev.some rfl
    | true => exact Ev.some rfl
theorem sameF_refl (a : List Stp) : ∀ d i, sameF a a d i = true
  | 0, _ => rfl
  | d + 1, i => by
    rw [sameF, sameF_refl a d (i + 1), Bool.and_true]
    exact decide_eq_true ⟨rfl, rfl, rfl, rfl, rfl, rfl, rfl⟩
theorem sameS_refl (a : List Stp) : sameS a a = true := by
  unfold sameS
  rw [decide_eq_true rfl, sameF_refl]; rfl
/-! What isn't too much. -/
theorem great_loop (l : List Stp) (hb : ∀ x ∈ l, (byt x).length ≤ 140737488351232) : ∀ (d i : Nat) (hi : i + d = l.length) (h6 : i ≤ 600) (n : Nat) (hn : n ≤ 40000) (ht : ∀ x ∈ l.take i, (byt x).length ≤ 40000),
    Ev (fun k => f39_broughamlaw25_great_L3 k l (n : Int) (i : Int)) (fun w => w = .inl true ∨ (w = .inr l ∧ (l.length ≤ 600 → ∀ x ∈ l, (byt x).length ≤ 40000)))
  | 0, i, hi, h6, n, hn, ht => by
    apply Ev.succ
    unfold f39_broughamlaw25_great_L3
    rw [List.take_of_length_le (by omega)] at ht
    exact Ev.neg (by simp only [decide_eq_true_eq]; omega) (Ev.some (.inr ⟨rfl, fun _ => ht⟩))
  | d + 1, i, hi, h6, n, hn, ht => by
    have hil : i < l.length := by omega
    have htake : l.take (i + 1) = l.take i ++ [l.getD i (0, (0, (0, (0, (0, (0, []))))))] := by
      rw [List.take_add_one]
      simp [List.getElem?_eq_getElem hil, List.getD_eq_getElem?_getD]
    have hx := hb _ (getD_mem hil (0, (0, (0, (0, (0, (0, [])))))))
    have ih := fun n' hn' ht' h6' => great_loop l hb d (i + 1) (by omega) h6' n' hn' ht'
    apply Ev.succ
    unfold f39_broughamlaw25_great_L3
    rw [i64_id (e := (i : Int) + 1) (by omega) (by omega), Int.toNat_natCast]
    rw [htake] at ih
    generalize l.getD i (0, (0, (0, (0, (0, (0, [])))))) = x at hx ih
    have hx2 : (byt x).length = x.2.2.2.2.2.2.length := rfl
    rw [i64_id (e := (n : Int) + ((x.2.2.2.2.2.2.length : Nat) : Int)) (by omega) (by omega)]
    refine Ev.pos (by simp only [decide_eq_true_eq]; omega) (Ev.ite (fun c => Ev.guard (by omega) (Ev.ite (fun _ => Ev.some (.inl rfl)) (fun c2 => ?_))) (fun c => Ev.some (.inr ⟨rfl, fun q => ?_⟩)))
    · simp only [decide_eq_true_eq] at c c2
      refine ih (n + x.2.2.2.2.2.2.length) (by omega) (fun y hy => ?_) (by omega)
      rcases List.mem_append.1 hy with hy | hy
      · exact ht y hy
      · simp only [List.mem_singleton] at hy; subst hy; omega
    · simp only [decide_eq_true_eq] at c
      omega
theorem great_ev (l : List Stp) (hb : ∀ x ∈ l, (byt x).length ≤ 140737488351232) : Ev (fun k => f39_broughamlaw25_great k l) (fun b => b = true ∨ (b = false ∧ l.length ≤ 600 ∧ ∀ x ∈ l, (byt x).length ≤ 40000)) := by
  unfold f39_broughamlaw25_great
  refine Ev.bind (great_loop l hb l.length 0 (by omega) (by omega) 0 (by omega) (by simp)) ?_
  rintro _ (rfl | ⟨rfl, h⟩)
  · exact Ev.some (.inl rfl)
  · refine Ev.some ?_
    by_cases q : l.length ≤ 600
    · exact .inr ⟨decide_eq_false (by omega), q, h q⟩
    · exact .inl (decide_eq_true (by omega))
theorem stp_ok {l : List (Int × Int × Int × Int × Int × Int × List Int)} (h : K.ok (.slice (.pair (.int .i64) (.pair (.int .i64) (.pair (.int .i64) (.pair (.int .i64) (.pair (.int .i64) (.pair (.int .i64) (.slice (.int .u8))))))))) l) : ∀ x ∈ l, Bytes (byt x) ∧ (byt x).length ≤ 140737488351232 := by
  intro x hx
  have q : K.ok (.pair (.int .i64) (.pair (.int .i64) (.pair (.int .i64) (.pair (.int .i64) (.pair (.int .i64) (.pair (.int .i64) (.slice (.int .u8)))))))) x := h.2 x hx
  have q2 : K.ok (.slice (.int .u8)) (byt x) := q.2.2.2.2.2.2
  refine ⟨ok_bytes q2, ?_⟩
  have q3 : (byt x).length * 1 ≤ 140737488351232 := q2.1
  omega
end Go.Proofs.YtakamchmiakicaaDoorF25b
