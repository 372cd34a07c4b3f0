/- What functions of this text leave, in plain numbers: proved for another text, and for this one by the same steps. Conditions: none. -/
import Derived.Test.YtakamchmiakicaaDoorF35c
import Derived.Lib.IndexLaws
import Derived.Lib.IndexBytes
import Derived.Lib.CutLaws
namespace Go.Proofs.YtakamchmiakicaaDoorF35c
open Go Zed Go.Proofs.YtakamchmiakicaaDoorLeaf
set_option linter.unusedVariables false
set_option linter.unusedSimpArgs false
set_option maxRecDepth 100000

/-- What digits tell. -/
def valF (a : Nat) : List UInt8 → Nat
  | [] => a
  | c :: r => valF (a * 10 + (c.toNat - 48)) r
def Digs (l : List UInt8) : Prop := ∀ c ∈ l, 48 ≤ c.toNat ∧ c.toNat ≤ 57
def Canon (l : List UInt8) : Prop := Digs l ∧ l ≠ [] ∧ (l.length = 1 ∨ l.head? ≠ some 48)
theorem valF_app (l r : List UInt8) : ∀ a, valF a (l ++ r) = valF (valF a l) r := by
  induction l with
  | nil => intro a; rfl
  | cons c l ih => intro a; exact ih _
theorem valF_ge (l : List UInt8) : ∀ a, a ≤ valF a l := by
  induction l with
  | nil => intro a; exact Nat.le_refl _
  | cons c l ih => intro a; exact Nat.le_trans (by omega) (ih _)
theorem valF_pow0 (a : Nat) : a * 10 ^ ([] : List UInt8).length ≤ valF a [] := by
  have h : a * 10 ^ 0 ≤ a := by omega
  exact h
theorem valF_pow (l : List UInt8) : ∀ a, a * 10 ^ l.length ≤ valF a l := by
  induction l with
  | nil => exact valF_pow0
  | cons c l ih =>
    intro a
    have h := ih (a * 10 + (c.toNat - 48))
    rw [List.length_cons, Nat.pow_succ, Nat.mul_comm (10 ^ l.length), ← Nat.mul_assoc]
    have h2 : a * 10 * 10 ^ l.length ≤ (a * 10 + (c.toNat - 48)) * 10 ^ l.length := Nat.mul_le_mul_right _ (Nat.le_add_right _ _)
    exact Nat.le_trans h2 h
theorem parseF_cons (c : UInt8) (r : List UInt8) (a : Nat) : parseF (c :: r) a = if 48 ≤ c.toNat ∧ c.toNat ≤ 57 ∧ a ≤ (2147483647 - (c.toNat - 48)) / 10 then parseF r (a * 10 + (c.toNat - 48)) else none := by rw [parseF]
theorem parseF_some (l : List UInt8) : ∀ (a n : Nat) (h : parseF l a = some n) (ha : a ≤ 2147483647), Digs l ∧ n = valF a l ∧ n ≤ 2147483647 := by
  induction l with
  | nil =>
    intro a n h ha
    have h : some a = some n := h
    simp only [Option.some.injEq] at h
    subst h
    exact ⟨fun c hc => (by cases hc), rfl, ha⟩
  | cons c r ih =>
    intro a n h ha
    rw [parseF_cons] at h
    split at h
    · rename_i hc
      obtain ⟨h1, h2, h3⟩ := ih _ n h (by omega)
      refine ⟨fun d hd => ?_, h2, h3⟩
      rcases List.mem_cons.1 hd with rfl | hd
      · exact ⟨hc.1, hc.2.1⟩
      · exact h1 d hd
    · cases h
theorem parseF_of (l : List UInt8) : ∀ (a : Nat) (hd : Digs l) (hv : valF a l ≤ 2147483647), parseF l a = some (valF a l) := by
  induction l with
  | nil => intro a _ _; rfl
  | cons c r ih =>
    intro a hd hv
    have hc := hd c List.mem_cons_self
    have hge := valF_ge r (a * 10 + (c.toNat - 48))
    have hv : valF (a * 10 + (c.toNat - 48)) r ≤ 2147483647 := hv
    rw [parseF_cons, if_pos ⟨hc.1, hc.2, by omega⟩]
    exact ih _ (fun d h => hd d (List.mem_cons_of_mem _ h)) hv
theorem dig_toNat (d : Nat) (h : d < 10) : ((48 + d).toUInt8).toNat = 48 + d := by simp; omega
theorem dig_eq (c : UInt8) (h : 48 ≤ c.toNat ∧ c.toNat ≤ 57) : (48 + (c.toNat - 48)).toUInt8 = c := by
  apply UInt8.toNat_inj.1
  rw [dig_toNat _ (by omega)]; omega
theorem canon_text : ∀ (k : Nat) (l : List UInt8), Canon l → l.length ≤ k → textF k (valF 0 l) = l
  | 0, l, h, hk => absurd (List.eq_nil_of_length_eq_zero (by omega)) h.2.1
  | k + 1, l, ⟨hd, hne, hh⟩, hk => by
    obtain ⟨r, c, rfl⟩ : ∃ r c, l = r ++ [c] := ⟨l.dropLast, l.getLast hne, (List.dropLast_concat_getLast hne).symm⟩
    have hc := hd c (by simp)
    have hdr : Digs r := fun d h => hd d (List.mem_append_left _ h)
    rw [valF_app]
    show textF (k + 1) (valF 0 r * 10 + (c.toNat - 48)) = _
    cases r with
    | nil =>
      show textF (k + 1) (0 * 10 + (c.toNat - 48)) = _
      rw [textF, if_pos (by omega), show 0 * 10 + (c.toNat - 48) = c.toNat - 48 by omega, dig_eq c hc]; rfl
    | cons d r =>
      have hd0 : d ≠ 48 := by
        rcases hh with hh | hh
        · simp at hh
        · intro e; subst e; simp at hh
      have hdd := hdr d List.mem_cons_self
      have hd1 : 49 ≤ d.toNat := by
        rcases Nat.lt_or_ge d.toNat 49 with q | q
        · exact absurd (UInt8.toNat_inj.1 (show d.toNat = (48 : UInt8).toNat by rw [show (48 : UInt8).toNat = 48 from rfl]; omega)) hd0
        · exact q
      have hv : 1 ≤ valF 0 (d :: r) := Nat.le_trans (by omega) (valF_ge r (0 * 10 + (d.toNat - 48)))
      rw [textF, if_neg (by omega), show (valF 0 (d :: r) * 10 + (c.toNat - 48)) / 10 = valF 0 (d :: r) by omega, show (valF 0 (d :: r) * 10 + (c.toNat - 48)) % 10 = c.toNat - 48 by omega, dig_eq c hc]
      rw [canon_text k (d :: r) ⟨hdr, by simp, .inr (by simp; exact hd0)⟩ (by simp at hk ⊢; omega)]
theorem text_canon : ∀ (k n : Nat), n < 10 ^ (k + 1) → Digs (textF (k + 1) n) ∧ textF (k + 1) n ≠ [] ∧ valF 0 (textF (k + 1) n) = n ∧ (textF (k + 1) n).length ≤ k + 1 ∧ (1 ≤ n → (textF (k + 1) n).head? ≠ some 48) ∧ (n < 10 → (textF (k + 1) n).length = 1)
  | k, n, hn => by
    by_cases h : n < 10
    · have hd := dig_toNat n h
      rw [textF, if_pos h]
      refine ⟨fun c hc => ?_, by simp, ?_, by simp, fun h1 => ?_, fun _ => rfl⟩
      · simp only [List.mem_singleton] at hc; subst hc; omega
      · show 0 * 10 + ((48 + n).toUInt8.toNat - 48) = n
        omega
      · intro e
        have e := Option.some.inj e
        have := congrArg UInt8.toNat e
        rw [hd] at this
        rw [show (48 : UInt8).toNat = 48 from rfl] at this
        omega
    · cases k with
      | zero => simp at hn; omega
      | succ k =>
        have hd := dig_toNat (n % 10) (by omega)
        obtain ⟨i1, i2, i3, i4, i5, i6⟩ := text_canon k (n / 10) (by rw [Nat.pow_succ] at hn; omega)
        have e : textF (k + 1 + 1) n = textF (k + 1) (n / 10) ++ [(48 + n % 10).toUInt8] := by
          show (if n < 10 then _ else _) = _
          rw [if_neg h]
        rw [e]
        refine ⟨fun c hc => ?_, by simp, ?_, by simp; omega, fun _ => ?_, fun q => absurd q h⟩
        · rcases List.mem_append.1 hc with hc | hc
          · exact i1 c hc
          · simp only [List.mem_singleton] at hc; subst hc; omega
        · rw [valF_app, i3]
          show n / 10 * 10 + ((48 + n % 10).toUInt8.toNat - 48) = n
          omega
        · obtain ⟨d, r, e⟩ := List.exists_cons_of_ne_nil i2
          have := i5 (by omega)
          rw [e] at this ⊢
          exact this
theorem textL_canon (n : Nat) (hn : n ≤ 9223372036854775807) : Canon (textL n) ∧ valF 0 (textL n) = n := by
  obtain ⟨i1, i2, i3, i4, i5, i6⟩ := text_canon 19 n (by omega)
  refine ⟨⟨i1, i2, ?_⟩, i3⟩
  by_cases h : n < 10
  · exact .inl (i6 h)
  · exact .inr (i5 (by omega))
theorem canon_len {l : List UInt8} (h : Canon l) (hv : valF 0 l ≤ 2147483647) : l.length ≤ 10 := by
  obtain ⟨hd, hne, hh⟩ := h
  cases l with
  | nil => exact absurd rfl hne
  | cons c r =>
    rcases hh with hh | hh
    · omega
    · have hc := hd c List.mem_cons_self
      have hc0 : c ≠ 48 := by intro e; subst e; simp at hh
      have hc1 : 49 ≤ c.toNat := by
        rcases Nat.lt_or_ge c.toNat 49 with q | q
        · exact absurd (UInt8.toNat_inj.1 (show c.toNat = (48 : UInt8).toNat by rw [show (48 : UInt8).toNat = 48 from rfl]; omega)) hc0
        · exact q
      have hp : (0 * 10 + (c.toNat - 48)) * 10 ^ r.length ≤ valF 0 (c :: r) := valF_pow r _
      have h1 : 10 ^ r.length ≤ 2147483647 := Nat.le_trans (by calc 10 ^ r.length = 1 * 10 ^ r.length := by omega
        _ ≤ (0 * 10 + (c.toNat - 48)) * 10 ^ r.length := Nat.mul_le_mul_right _ (by omega)) (Nat.le_trans hp hv)
      rcases Nat.lt_or_ge r.length 10 with q | q
      · rw [List.length_cons]; omega
      · have := Nat.pow_le_pow_right (show 0 < 10 by omega) q
        omega
/-- What Parse answers. -/
theorem parseR_yes {l : List UInt8} (h : Canon l) (hv : valF 0 l ≤ 2147483647) : parseR l = (((valF 0 l : Nat) : Int), 0) := by
  have ht : textL (valF 0 l) = l := canon_text 20 l h (by have := canon_len h hv; omega)
  rw [parseR, parseF_of l 0 h.1 hv]
  dsimp only
  rw [if_pos ht]
theorem parseR_no {l : List UInt8} (h : ¬ (Canon l ∧ valF 0 l ≤ 2147483647)) : parseR l = (0, 10) := by
  rw [parseR]
  cases hp : parseF l 0 with
  | none => rfl
  | some n =>
    obtain ⟨h1, h2, h3⟩ := parseF_some l 0 n hp (by omega)
    dsimp only
    rw [if_neg]
    intro e
    subst h2
    have := (textL_canon (valF 0 l) (by omega)).1
    rw [e] at this
    exact h ⟨this, h3⟩
theorem parseR_text {n : Nat} (hn : n ≤ 2147483647) : parseR (textL n) = ((n : Int), 0) := by
  obtain ⟨h1, h2⟩ := textL_canon n (by omega)
  rw [parseR_yes h1 (by omega), h2]
theorem str_dec (a b : ByteArray) : (a.toList == b.toList) = decide (a.data.toList = b.data.toList) := by
  rw [ByteArray.toList_eq, ByteArray.toList_eq, Bool.eq_iff_iff, beq_iff_eq, decide_eq_true_eq]
theorem size_len (s : ByteArray) : s.size = s.data.toList.length := Lib.size_eq s
theorem byte_at {s : ByteArray} {i : Nat} (h : i < s.data.toList.length) : byteAt s (i : Int) = ((s.data.toList[i]'h).toNat : Int) := by
  have h' : i < s.size := by rw [size_len]; exact h
  unfold byteAt
  rw [dif_pos (by rw [Int.toNat_natCast]; exact h')]
  simp only [Int.toNat_natCast]
  rfl
theorem valF_lt (l : List UInt8) : ∀ a, Digs l → valF a l < (a + 1) * 10 ^ l.length := by
  induction l with
  | nil =>
    intro a _
    have : valF a [] < (a + 1) * 10 ^ 0 := by
      rw [show valF a [] = a from rfl]; omega
    exact this
  | cons c l ih =>
    intro a hd
    have hc := hd c List.mem_cons_self
    have h := ih (a * 10 + (c.toNat - 48)) (fun d h => hd d (List.mem_cons_of_mem _ h))
    have h2 : (a * 10 + (c.toNat - 48) + 1) * 10 ^ l.length ≤ ((a + 1) * 10) * 10 ^ l.length := Nat.mul_le_mul_right _ (by omega)
    rw [List.length_cons, Nat.pow_succ, Nat.mul_comm (10 ^ l.length), ← Nat.mul_assoc]
    exact Nat.lt_of_lt_of_le h h2
theorem dig_ext : ∀ m : Fin 10, (⟨#[48, 49, 50, 51, 52, 53, 54, 55, 56, 57]⟩ : ByteArray).extract m.val (m.val + 1) = ⟨[(48 + m.val).toUInt8].toArray⟩ := by decide
theorem dig_ext' (m : Nat) (h : m < 10) : (⟨#[48, 49, 50, 51, 52, 53, 54, 55, 56, 57]⟩ : ByteArray).extract m (m + 1) = ⟨[(48 + m).toUInt8].toArray⟩ := dig_ext ⟨m, h⟩
theorem cut_dig (m : Nat) (h : m < 10) : cutOk (⟨#[48, 49, 50, 51, 52, 53, 54, 55, 56, 57]⟩ : ByteArray).size (some (m : Int)) (some (IntKind.wrap .i64 ((m : Int) + 1))) none := by
  rw [i64_id (by omega) (by omega)]
  have e : (⟨#[48, 49, 50, 51, 52, 53, 54, 55, 56, 57]⟩ : ByteArray).size = 10 := rfl
  rw [e]
  simp [cutOk]; omega
theorem app_arr (a b : List UInt8) : (⟨a.toArray⟩ : ByteArray) ++ ⟨b.toArray⟩ = ⟨(a ++ b).toArray⟩ := by
  apply ByteArray.ext
  simp
theorem textF_len : ∀ (k n : Nat), (textF k n).length ≤ k
  | 0, _ => Nat.le_refl _
  | k + 1, n => by
    rw [textF]; split
    · simp
    · have := textF_len k (n / 10); simp; omega
theorem text_ev (n : Int) (h0 : -9223372036854775808 ≤ n) (h1 : n < 9223372036854775808) : Ev (fun _ => f52_num_Text n) (fun r => r = textB n) := by
  unfold f52_num_Text
  exact Ev.pos ⟨h0, by omega⟩ (Ev.some rfl)
theorem parse_ev (s : ByteArray) (h : s.size ≤ 9223372036854775807) : Ev (fun _ => f51_num_Parse s) (fun r => r = parseR s.data.toList) := by
  unfold f51_num_Parse
  exact Ev.pos h (Ev.some rfl)
abbrev dg : ByteArray := ⟨#[48, 49, 50, 51, 52, 53, 54, 55, 56, 57, 97, 98, 99, 100, 101, 102]⟩
theorem or_fin : ∀ h l : Fin 16, IntKind.wrap .u8 (bits .or .i64 (IntKind.wrap .i64 ((h.val : Int) * 2 ^ 4)) (l.val : Int)) = (h.val : Int) * 16 + l.val := by decide
theorem or_is {h l : Int} (h0 : 0 ≤ h ∧ h < 16) (l0 : 0 ≤ l ∧ l < 16) : IntKind.wrap .u8 (bits .or .i64 (IntKind.wrap .i64 (h * 2 ^ 4)) l) = h * 16 + l := by
  have := or_fin ⟨h.toNat, by omega⟩ ⟨l.toNat, by omega⟩
  simp only [show ((h.toNat : Nat) : Int) = h by omega, show ((l.toNat : Nat) : Int) = l by omega] at this
  exact this
theorem mul_is {h l : Int} (h0 : 0 ≤ h ∧ h < 16) (l0 : 0 ≤ l ∧ l < 16) : IntKind.wrap .u8 (IntKind.wrap .i64 ((IntKind.wrap .i64 (h * 16)) + l)) = h * 16 + l := by
  rw [i64_id (e := h * 16) (by omega) (by omega), i64_id (by omega) (by omega), u8_id (by omega) (by omega)]
theorem drop2 {l : List UInt8} {i : Nat} (h : i + 1 < l.length) : l.drop i = l[i] :: l[i + 1] :: l.drop (i + 2) := by
  rw [List.drop_eq_getElem_cons (by omega), List.drop_eq_getElem_cons h]
theorem dg_at (n : Nat) (h : n < 16) : byteAt dg (n : Int) = ((hexD n).toNat : Int) := by
  have h' : n < dg.size := h
  unfold byteAt
  rw [dif_pos (by rw [Int.toNat_natCast]; exact h')]
  simp only [Int.toNat_natCast]
  have := dig_is n h
  exact congrArg (fun x : UInt8 => (x.toNat : Int)) this
/-- A text's bytes. -/
def D (a : ByteArray) : List UInt8 := a.data.toList
theorem D_app (a b : ByteArray) : D (a ++ b) = D a ++ D b := by simp [D]
theorem D_lit (l : List UInt8) : D ⟨l.toArray⟩ = l := rfl
theorem sz_D (a : ByteArray) : a.size = (D a).length := size_len a
theorem sz_app (a b : ByteArray) : (a ++ b).size = a.size + b.size := by rw [sz_D, D_app, List.length_append, ← sz_D, ← sz_D]
theorem sz_lit (l : List UInt8) : (⟨l.toArray⟩ : ByteArray).size = l.length := by rw [sz_D, D_lit]
theorem D_eq {a b : ByteArray} (h : D a = D b) : (a.toList == b.toList) = true := by
  rw [str_dec, decide_eq_true_eq]; exact h
theorem ext_D {a b : ByteArray} (h : D a = D b) : a = b := by
  apply ByteArray.ext
  exact Array.toList_inj.1 h
def ne (x : ByteArray) : Bool := decide (D x ≠ [])
def lineB (l : List ByteArray) : ByteArray := YtakamchmiakicaaDoorLeaf.joinB (l.filter ne) ⟨[32].toArray⟩
theorem ne_of_sz {a : ByteArray} (h : 1 ≤ a.size) : D a ≠ [] := by
  intro e; rw [sz_D, e] at h; simp at h
/-- A word, if it is one. -/
def emit (w : List UInt8) : List (List UInt8) := if w = [] then [] else [w]
/-- The words between bytes c. -/
def ws (c : UInt8) (now : List UInt8) : List UInt8 → List (List UInt8)
  | [] => emit now
  | x :: r => if x = c then emit now ++ ws c [] r else ws c (now ++ [x]) r
/-- The words between blanks, ahead of a #. -/
def pc (now : List UInt8) : List UInt8 → List (List UInt8)
  | [] => emit now
  | x :: r => if x = 35 then emit now else if x = 32 then emit now ++ pc [] r else pc (now ++ [x]) r
def upto (l : List UInt8) : List UInt8 := l.takeWhile (· != 35)
theorem pc_ws : ∀ (l now : List UInt8), pc now l = ws 32 now (upto l)
  | [], now => rfl
  | x :: r, now => by
    rw [pc]
    by_cases h : x = 35
    · rw [if_pos h]; subst h; rfl
    · rw [if_neg h]
      have e : upto (x :: r) = x :: upto r := by
        unfold upto
        rw [List.takeWhile_cons, if_pos (by simpa using h)]
      rw [e, ws]
      split
      · rw [pc_ws r []]
      · rw [pc_ws r _]
theorem ws_no (c : UInt8) : ∀ (l now : List UInt8), c ∉ l → ws c now l = emit (now ++ l)
  | [], now, h => by rw [List.append_nil]; rfl
  | x :: r, now, h => by
    have hx : ¬ x = c := fun e => h (by rw [e]; exact List.mem_cons_self)
    rw [ws, if_neg hx, ws_no c r _ (fun q => h (List.mem_cons_of_mem _ q)), List.append_assoc]; rfl
theorem ws_at (c : UInt8) : ∀ (a r now : List UInt8), c ∉ a → ws c now (a ++ c :: r) = emit (now ++ a) ++ ws c [] r
  | [], r, now, h => by rw [List.nil_append, ws, if_pos rfl, List.append_nil]
  | x :: a, r, now, h => by
    have hx : ¬ x = c := fun e => h (by rw [e]; exact List.mem_cons_self)
    rw [List.cons_append, ws, if_neg hx, ws_at c a r _ (fun q => h (List.mem_cons_of_mem _ q)), List.append_assoc]; rfl
def fil (l : List (List UInt8)) : List (List UInt8) := l.filter fun w => decide (w ≠ [])
theorem fil_one (w : List UInt8) : fil [w] = emit w := by
  unfold fil emit
  by_cases h : w = [] <;> simp [h]
theorem fil_cons (w : List UInt8) (l : List (List UInt8)) : fil (w :: l) = emit w ++ fil l := by
  unfold fil emit
  by_cases h : w = [] <;> simp [h]
theorem byte_none {l : List UInt8} {c : UInt8} (h : Lib.indexByte l c = -1) : c ∉ l := by
  intro hm
  obtain ⟨k, hk⟩ := List.getElem?_of_mem hm
  exact Lib.indexByte_none h k hk
theorem byte_some {l : List UInt8} {c : UInt8} {o : Nat} (h : Lib.indexByte l c = o) : l = l.take o ++ c :: l.drop (o + 1) ∧ c ∉ l.take o ∧ o < l.length := by
  obtain ⟨h1, h2⟩ := Lib.indexByte_some h
  have hlt := (List.getElem?_eq_some_iff.1 h1).1
  have he := (List.getElem?_eq_some_iff.1 h1).2
  refine ⟨?_, fun hm => ?_, hlt⟩
  · conv => lhs; rw [← List.take_append_drop o l]
    rw [List.drop_eq_getElem_cons hlt, he]
  · obtain ⟨k, hk⟩ := List.getElem?_of_mem hm
    rw [List.getElem?_take] at hk
    split at hk
    · rename_i hko
      exact h2 k hko hk
    · cases hk
theorem byte_cases (l : List UInt8) (c : UInt8) : Lib.indexByte l c = -1 ∨ ∃ o : Nat, Lib.indexByte l c = o := by
  have := Lib.indexByte_ge l c
  by_cases h : Lib.indexByte l c = -1
  · exact .inl h
  · exact .inr ⟨(Lib.indexByte l c).toNat, by omega⟩
theorem split_fil (c : UInt8) : ∀ (k : Nat) (l : List UInt8), l.count c ≤ k → fil (Lib.splitK [c] 0 k l) = ws c [] l
  | 0, l, h => by
    have hn : c ∉ l := fun hm => by have := List.count_pos_iff.2 hm; omega
    rw [ws_no c l [] hn, List.nil_append]
    exact fil_one l
  | k + 1, l, h => by
    rw [Lib.splitK, Lib.index_one]
    rcases byte_cases l c with e | ⟨o, e⟩
    · rw [e, if_pos (by decide), fil_one, ws_no c l [] (byte_none e)]; rfl
    · obtain ⟨h1, h2, h3⟩ := byte_some e
      rw [e, if_neg (by rw [beq_iff_eq]; omega), Int.toNat_natCast, fil_cons, Nat.add_zero]
      have hc : l.count c = (l.drop (o + 1)).count c + 1 := by
        conv => lhs; rw [h1]
        rw [List.count_append, List.count_eq_zero.2 h2, List.count_cons_self]; omega
      show emit (l.take o) ++ fil (Lib.splitK [c] 0 k (l.drop (o + 1))) = _
      rw [split_fil c k _ (by omega)]
      conv => rhs; rw [h1]
      rw [ws_at c _ _ [] h2]; rfl
theorem cut_upto (l : List UInt8) : (Lib.cut l [35]).1 = upto l := by
  unfold Lib.cut
  rw [Lib.index_one]
  rcases byte_cases l 35 with e | ⟨o, e⟩
  · rw [e, if_neg (by decide)]
    have := byte_none e
    show l = l.takeWhile (· != 35)
    have hp : ∀ x ∈ l, (x != 35) = true := by
      intro x hx
      simp only [bne_iff_ne, ne_eq]
      intro e; subst e; exact this hx
    have q := List.takeWhile_append_of_pos (l₂ := ([] : List UInt8)) hp
    rw [List.append_nil] at q
    rw [q]; simp
  · obtain ⟨h1, h2, h3⟩ := byte_some e
    rw [e, if_pos (by omega), Int.toNat_natCast]
    show l.take o = l.takeWhile (· != 35)
    conv => rhs; rw [h1]
    rw [List.takeWhile_append_of_pos, List.takeWhile_cons, if_neg (by simp), List.append_nil]
    intro x hx
    simp only [bne_iff_ne, ne_eq]
    intro e; subst e; exact h2 hx
/-- A word that may stand between blanks. -/
def Word (w : List UInt8) : Prop := w ≠ [] ∧ (32 : UInt8) ∉ w ∧ (35 : UInt8) ∉ w
theorem emit_word {w : List UInt8} (h : (32 : UInt8) ∉ w ∧ (35 : UInt8) ∉ w) : ∀ x ∈ emit w, Word x := by
  intro x hx
  unfold emit at hx
  split at hx
  · cases hx
  · rename_i hne
    simp only [List.mem_singleton] at hx; subst hx; exact ⟨hne, h⟩
theorem pc_words : ∀ (l now : List UInt8) (h : (32 : UInt8) ∉ now ∧ (35 : UInt8) ∉ now), ∀ x ∈ pc now l, Word x
  | [], now, h => emit_word h
  | x :: r, now, h => by
    rw [pc]
    split
    · exact emit_word h
    · rename_i h35
      split
      · intro y hy
        rcases List.mem_append.1 hy with hy | hy
        · exact emit_word h y hy
        · exact pc_words r [] ⟨by simp, by simp⟩ y hy
      · rename_i h32
        refine pc_words r _ ⟨fun q => ?_, fun q => ?_⟩
        · rcases List.mem_append.1 q with q | q
          · exact h.1 q
          · simp only [List.mem_singleton] at q; exact h32 q.symm
        · rcases List.mem_append.1 q with q | q
          · exact h.2 q
          · simp only [List.mem_singleton] at q; exact h35 q.symm
theorem pc_len : ∀ (l now : List UInt8), ((pc now l).map List.length).sum ≤ now.length + l.length ∧ (pc now l).length ≤ 1 + l.length
  | [], now => by
    unfold pc emit
    split <;> simp
  | x :: r, now => by
    have he : ((emit now).map List.length).sum ≤ now.length ∧ (emit now).length ≤ 1 := by unfold emit; split <;> simp
    rw [pc]
    split
    · simp only [List.length_cons]; omega
    · split
      · have := pc_len r []
        rw [List.map_append, List.sum_append, List.length_append]
        simp only [List.length_cons, List.length_nil] at this ⊢; omega
      · have := pc_len r (now ++ [x])
        simp only [List.length_append, List.length_cons, List.length_nil] at this ⊢; omega
theorem pc_word : ∀ (w now t : List UInt8), (32 : UInt8) ∉ w → (35 : UInt8) ∉ w → pc now (w ++ t) = pc (now ++ w) t
  | [], now, t, _, _ => by simp
  | x :: w, now, t, h1, h2 => by
    have a : ¬ x = 35 := fun e => h2 (by rw [e]; exact List.mem_cons_self)
    have b : ¬ x = 32 := fun e => h1 (by rw [e]; exact List.mem_cons_self)
    rw [List.cons_append, pc, if_neg a, if_neg b, pc_word w _ t (fun q => h1 (List.mem_cons_of_mem _ q)) (fun q => h2 (List.mem_cons_of_mem _ q)), List.append_assoc]; rfl
theorem pc_tail : ∀ (r : List (List UInt8)) (x : List UInt8) (hx : Word x) (hr : ∀ w ∈ r, Word w), pc x (Lib.joinTail [32] r) = x :: r
  | [], x, hx, hr => by
    show emit x = [x]
    unfold emit; rw [if_neg hx.1]
  | y :: r, x, hx, hr => by
    have hy := hr y List.mem_cons_self
    have e : Lib.joinTail [32] (y :: r) = 32 :: (y ++ Lib.joinTail [32] r) := by simp [Lib.joinTail]
    rw [e, pc, if_neg (by decide), if_pos rfl, pc_word y [] _ hy.2.1 hy.2.2, List.nil_append, pc_tail r y hy (fun w hw => hr w (List.mem_cons_of_mem _ hw))]
    unfold emit; rw [if_neg hx.1]; rfl
theorem pc_join (p : List (List UInt8)) (h : ∀ w ∈ p, Word w) : pc [] (Lib.join p [32]) = p := by
  cases p with
  | nil => rfl
  | cons x r =>
    have hx := h x List.mem_cons_self
    rw [Lib.join_cons, pc_word x [] _ hx.2.1 hx.2.2, List.nil_append, pc_tail r x hx (fun w hw => h w (List.mem_cons_of_mem _ hw))]
/-- The line, a word more. -/
theorem joinTail_snoc (r : List (List UInt8)) (y : List UInt8) : Lib.joinTail [32] (r ++ [y]) = Lib.joinTail [32] r ++ 32 :: y := by simp [Lib.joinTail]
theorem join_snoc (r : List (List UInt8)) (y : List UInt8) : Lib.join (r ++ [y]) [32] = if r = [] then y else Lib.join r [32] ++ [32] ++ y := by
  cases r with
  | nil => rw [if_pos rfl]; simp [Lib.join_one]
  | cons x r => rw [if_neg (by simp), List.cons_append, Lib.join_cons, Lib.join_cons, joinTail_snoc]; simp
theorem join_nil_iff (r : List (List UInt8)) (h : ∀ w ∈ r, w ≠ []) : (Lib.join r [32] = []) ↔ r = [] := by
  cases r with
  | nil => exact ⟨fun _ => rfl, fun _ => rfl⟩
  | cons x r =>
    rw [Lib.join_cons]
    have := h x List.mem_cons_self
    simp [this]
theorem join_len (r : List (List UInt8)) : (Lib.join r [32]).length ≤ (r.map List.length).sum + r.length := by
  cases r with
  | nil => exact Nat.le_refl _
  | cons x r =>
    rw [Lib.join_length]
    show 1 * r.length + Lib.lens (x :: r) ≤ _
    have : Lib.lens (x :: r) = ((x :: r).map List.length).sum := rfl
    rw [this, List.length_cons]; omega
theorem ne_is (x : ByteArray) : (!(x.toList == (⟨#[]⟩ : ByteArray).toList)) = ne x := by
  rw [str_dec]
  unfold ne D
  by_cases h : x.data.toList = []
  · rw [decide_eq_true (by simpa using h), decide_eq_false (by simpa using h)]; rfl
  · rw [decide_eq_false (by simpa using h), decide_eq_true (by simpa using h)]; rfl
theorem fil_map (l : List ByteArray) : (l.filter ne).map D = fil (l.map D) := by
  unfold fil
  rw [List.filter_map]; rfl
theorem line_Dj (l : List ByteArray) : D (lineB l) = Lib.join (fil (l.map D)) [32] := by
  rw [← fil_map]; rfl
theorem pieces_loop (l : List ByteArray) (hl : l.length ≤ 100000) : ∀ (d i : Nat) (hi : i + d = l.length) (out : List ByteArray) (ho : out.length ≤ i),
    Ev (fun n => f15_num_Pieces_L4 n out l ((l.length : Nat) : Int) (i : Int)) (fun w => w = out ++ (l.drop i).filter ne)
  | 0, i, hi, out, ho => by
    apply Ev.succ
    unfold f15_num_Pieces_L4
    refine Ev.neg (by simp only [decide_eq_true_eq]; omega) (Ev.some ?_)
    rw [List.drop_eq_nil_of_le (by omega)]; simp
  | d + 1, i, hi, out, ho => by
    have e1 : l.drop i = l.getD i ByteArray.empty :: l.drop (i + 1) := drop_cons (by omega) _
    apply Ev.succ
    unfold f15_num_Pieces_L4
    rw [Int.toNat_natCast, i64_id (e := (i : Int) + 1) (by omega) (by omega), e1, List.filter_cons, ne_is]
    generalize l.getD i ByteArray.empty = x
    refine Ev.pos (by simp only [decide_eq_true_eq]; omega) (Ev.guard (by omega) (Ev.ite (fun c => Ev.guard (by simp only [List.length_singleton, maxLen]; omega) ?_) (fun c => ?_)))
    · refine (pieces_loop l hl d (i + 1) (by omega) _ (by simp; omega)).mono ?_
      rintro _ rfl
      rw [if_pos c]; simp
    · refine (pieces_loop l hl d (i + 1) (by omega) _ (by omega)).mono ?_
      rintro _ rfl
      rw [if_neg c]
theorem countB_cut (s : ByteArray) (c : UInt8) : Lib.countB s ⟨#[c]⟩ = (D s).count c := by
  show Lib.count s.data.toList [c] = _
  rw [Lib.count_one]; rfl
theorem split_D (s : ByteArray) (c : UInt8) : fil ((splitS s ⟨#[c]⟩).map D) = ws c [] (D s) := by
  unfold splitS
  have e : (Lib.splitB ⟨#[c]⟩ 0 (Lib.countB s ⟨#[c]⟩) s).map D = Lib.splitK [c] 0 (Lib.countB s ⟨#[c]⟩) (D s) := Lib.splitB_data ⟨#[c]⟩ 0 _ s
  rw [e, split_fil c _ (D s) (by rw [countB_cut]; exact Nat.le_refl _)]
theorem split_len (s : ByteArray) (c : UInt8) : (splitS s ⟨#[c]⟩).length ≤ s.size + 1 := by
  have h1 := Lib.splitB_all ⟨#[c]⟩ (Nat.le_refl 1) 0 _ s rfl
  have h2 := Lib.countB_le ⟨#[c]⟩ (Nat.le_refl 1) s.size s (Nat.le_refl _)
  show (Lib.splitB ⟨#[c]⟩ 0 (Lib.countB s ⟨#[c]⟩) s).length ≤ _
  rw [h1]; omega
theorem pieces_ev (s : ByteArray) (hs : s.size ≤ 90000) : Ev (fun n => f15_num_Pieces n s) (fun r => r.map D = pc [] (D s)) := by
  unfold f15_num_Pieces
  refine Ev.bind (P := fun r => r = cutB s ⟨#[35]⟩) ?_ ?_
  · unfold f49_strings_Cut
    exact Ev.pos ⟨rfl, by omega⟩ (Ev.some rfl)
  rintro _ rfl
  have hD : D (cutB s ⟨#[35]⟩).1 = upto (D s) := cut_upto (D s)
  have hsz : (cutB s ⟨#[35]⟩).1.size ≤ 90000 := by
    rw [sz_D, hD]
    have : (upto (D s)).length ≤ (D s).length := (List.takeWhile_sublist _).length_le
    rw [sz_D] at hs; omega
  refine Ev.bind (P := fun r => r = splitS (cutB s ⟨#[35]⟩).1 ⟨#[32]⟩) ?_ ?_
  · unfold f45_strings_Split
    exact Ev.pos ⟨rfl, by omega⟩ (Ev.some rfl)
  rintro _ rfl
  have hlen := split_len (cutB s ⟨#[35]⟩).1 32
  generalize hq : splitS (cutB s ⟨#[35]⟩).1 ⟨#[32]⟩ = q at hlen
  refine Ev.bind (pieces_loop q (by omega) q.length 0 (by omega) [] (by simp)) ?_
  rintro _ rfl
  refine Ev.some ?_
  rw [List.drop_zero, List.nil_append, fil_map, ← hq, split_D, hD, pc_ws]
def unw (l : List UInt8) : ByteArray := ⟨l.toArray⟩
theorem unw_D (a : ByteArray) : unw (D a) = a := ext_D rfl
def pieceB (s : ByteArray) : List ByteArray := (pc [] (D s)).map unw
theorem map_unw {r : List ByteArray} {x : List (List UInt8)} (h : r.map D = x) : r = x.map unw := by
  subst h
  rw [List.map_map]
  conv => lhs; rw [← List.map_id r]
  exact List.map_congr_left fun a _ => (unw_D a).symm
theorem pieceB_D (s : ByteArray) : (pieceB s).map D = pc [] (D s) := by
  unfold pieceB
  rw [List.map_map]
  conv => rhs; rw [← List.map_id (pc [] (D s))]
  exact List.map_congr_left fun a _ => rfl
theorem pieceB_ev (s : ByteArray) (hs : s.size ≤ 90000) : Ev (fun n => f15_num_Pieces n s) (fun r => r = pieceB s) := (pieces_ev s hs).mono fun r h => map_unw h
theorem mem_sum {l : List (List UInt8)} {x : List UInt8} (h : x ∈ l) : x.length ≤ (l.map List.length).sum := by
  induction l with
  | nil => cases h
  | cons y l ih =>
    rw [List.map_cons, List.sum_cons]
    rcases List.mem_cons.1 h with rfl | h
    · omega
    · have := ih h; omega
theorem pieceB_sz {s x : ByteArray} (h : x ∈ pieceB s) : x.size ≤ s.size := by
  have h1 : D x ∈ pc [] (D s) := by rw [← pieceB_D]; exact List.mem_map_of_mem h
  have h2 := mem_sum h1
  have h3 := (pc_len (D s) []).1
  rw [sz_D, sz_D s]
  simp only [List.length_nil] at h3
  omega
theorem pieceB_len (s : ByteArray) : (pieceB s).length ≤ 1 + s.size := by
  have h3 := (pc_len (D s) []).2
  rw [← pieceB_D, List.length_map] at h3
  rw [sz_D]; exact h3
def Alf (l : List UInt8) : Prop := ∀ c ∈ l, c = 104 ∨ c = 110 ∨ c = 112 ∨ c = 119 ∨ c = 107 ∨ c = 98
theorem ext_D_is (s : ByteArray) (a b : Nat) (h : a ≤ b) : D (s.extract a b) = ((D s).drop a).take (b - a) := by
  show (s.extract a b).data.toList = _
  rw [Lib.extract_data]; rfl
def chs : List UInt8 := [104, 110, 112, 119, 107]
theorem chs_mem {i : Nat} (h : i < 5) : chs.getD i 0 = 104 ∨ chs.getD i 0 = 110 ∨ chs.getD i 0 = 112 ∨ chs.getD i 0 = 119 ∨ chs.getD i 0 = 107 := by
  match i with
  | 0 => exact .inl rfl
  | 1 => exact .inr (.inl rfl)
  | 2 => exact .inr (.inr (.inl rfl))
  | 3 => exact .inr (.inr (.inr (.inl rfl)))
  | 4 => exact .inr (.inr (.inr (.inr rfl)))
  | i + 5 => omega
theorem chs_int {i : Nat} (h : i < 5) : ([104, 110, 112, 119, 107] : List Int).getD i 0 = ((chs.getD i 0).toNat : Int) := by
  match i with
  | 0 => rfl
  | 1 => rfl
  | 2 => rfl
  | 3 => rfl
  | 4 => rfl
  | i + 5 => omega
theorem chs_byte {i : Nat} (h : i < 5) : byteAt (⟨#[104, 110, 112, 119, 107]⟩ : ByteArray) (i : Int) = ((chs.getD i 0).toNat : Int) := by
  match i with
  | 0 => rfl
  | 1 => rfl
  | 2 => rfl
  | 3 => rfl
  | 4 => rfl
  | i + 5 => omega
theorem hex_ne (b : List Int) : D (hexB b) ≠ [] := by
  unfold hexB
  split
  · decide
  · rename_i h
    intro e
    have e2 : hexL (b.map fun x => x.toNat.toUInt8) = [] := e
    have hlen := hexL_len (b.map fun x => x.toNat.toUInt8)
    rw [e2, List.length_map, List.length_nil] at hlen
    exact h (List.eq_nil_of_length_eq_zero (by omega))
theorem hex_sz (b : List Int) : (D (hexB b)).length ≤ 2 * b.length + 1 := by
  unfold hexB
  split
  · show 1 ≤ _; omega
  · have hlen := hexL_len (b.map fun x => x.toNat.toUInt8)
    rw [List.length_map] at hlen
    show (hexL _).length ≤ _
    omega
theorem sum_le {l : List (List UInt8)} {m : Nat} (h : ∀ x ∈ l, x.length ≤ m) : (l.map List.length).sum ≤ l.length * m := by
  induction l with
  | nil => exact Nat.zero_le _
  | cons y l ih =>
    have h1 := ih (fun x hx => h x (List.mem_cons_of_mem _ hx))
    have h2 := h y List.mem_cons_self
    rw [List.map_cons, List.sum_cons, List.length_cons, Nat.succ_mul]; omega
theorem join_tail_cons (x : List UInt8) (r : List (List UInt8)) : Lib.joinTail [32] (x :: r) = 32 :: (x ++ Lib.joinTail [32] r) := by simp [Lib.joinTail]

abbrev BA := ByteArray
abbrev tNot : BA := ⟨#[110, 111, 116]⟩
abbrev tAnd : BA := ⟨#[97, 110, 100]⟩
abbrev tOr : BA := ⟨#[111, 114]⟩
abbrev tOpen : BA := ⟨#[40]⟩
abbrev tClose : BA := ⟨#[41]⟩
abbrev tAll : BA := ⟨#[97, 108, 108]⟩
abbrev tEmpty : BA := ⟨#[101, 109, 112, 116, 121]⟩
abbrev tSyn : BA := ⟨#[115, 121, 110]⟩
abbrev tAck : BA := ⟨#[97, 99, 107]⟩
abbrev tRst : BA := ⟨#[114, 115, 116]⟩
abbrev tPort : BA := ⟨#[112, 111, 114, 116]⟩
abbrev tSrc : BA := ⟨#[115, 114, 99]⟩
abbrev tDst : BA := ⟨#[100, 115, 116]⟩
abbrev tHas : BA := ⟨#[104, 97, 115]⟩
abbrev tLong : BA := ⟨#[108, 111, 110, 103]⟩
theorem str_eqD (a b : BA) : (a.toList == b.toList) = decide (a = b) := by
  rw [str_dec]
  by_cases h : a = b
  · rw [decide_eq_true h, decide_eq_true (by rw [h])]
  · rw [decide_eq_false h, decide_eq_false (show ¬ a.data.toList = b.data.toList from fun q => h (ext_D q))]
/-- Two fuels. -/
def Ev2 {α : Type} (F : Nat → Nat → Option α) (Q : α → Prop) : Prop := ∃ r, Q r ∧ ∃ N, ∀ m n, N ≤ m → N ≤ n → F m n = some r
theorem Ev2.some {α : Type} {r : α} {Q : α → Prop} (h : Q r) : Ev2 (fun _ _ => Option.some r) Q := ⟨r, h, 0, fun _ _ _ _ => rfl⟩
theorem Ev2.bind {α β : Type} {F : Nat → Nat → Option β} {k : Nat → Nat → β → Option α} {P : β → Prop} {Q : α → Prop} (h : Ev2 F P) (hk : ∀ r, P r → Ev2 (fun m n => k m n r) Q) : Ev2 (fun m n => (F m n).bind (k m n)) Q := by
  obtain ⟨r, hr, N, hN⟩ := h
  obtain ⟨s, hs, M, hM⟩ := hk r hr
  refine ⟨s, hs, max N M, fun m n h1 h2 => ?_⟩
  show (F m n).bind (k m n) = _
  rw [hN m n (by omega) (by omega)]
  exact hM m n (by omega) (by omega)
theorem Ev2.succ {α : Type} {F : Nat → Nat → Option α} {Q : α → Prop} (h : Ev2 (fun m n => F m (n + 1)) Q) : Ev2 F Q := by
  obtain ⟨r, hr, N, hN⟩ := h
  refine ⟨r, hr, N + 1, fun m n h1 h2 => ?_⟩
  obtain ⟨k, rfl⟩ : ∃ k, n = k + 1 := ⟨n - 1, by omega⟩
  exact hN m k (by omega) (by omega)
theorem Ev2.mono {α : Type} {F : Nat → Nat → Option α} {Q R : α → Prop} (h : Ev2 F Q) (k : ∀ r, Q r → R r) : Ev2 F R := by
  obtain ⟨r, hr, h⟩ := h
  exact ⟨r, k r hr, h⟩
theorem Ev2.diag {α : Type} {F : Nat → Nat → Option α} {Q : α → Prop} (h : Ev2 F Q) : Ev (fun n => F n n) Q := by
  obtain ⟨r, hr, N, hN⟩ := h
  exact ⟨r, hr, N, fun n hn => hN n n hn hn⟩
theorem Ev2.left {α : Type} {f : Nat → Option α} {Q : α → Prop} (h : Ev f Q) : Ev2 (fun m _ => f m) Q := by
  obtain ⟨r, hr, N, hN⟩ := h
  exact ⟨r, hr, N, fun m _ hm _ => hN m hm⟩
theorem Ev2.of {α : Type} {o : Option α} {r : α} {Q : α → Prop} (h : o = Option.some r) (hq : Q r) : Ev2 (fun _ _ => o) Q := ⟨r, hq, 0, fun _ _ _ _ => h⟩
theorem Ev2.pos {α : Type} {c : Prop} [Decidable c] {F G : Nat → Nat → Option α} {Q : α → Prop} (hc : c) (h : Ev2 F Q) : Ev2 (fun m n => if c then F m n else G m n) Q := by
  simpa only [if_pos hc] using h
theorem Ev2.neg {α : Type} {c : Prop} [Decidable c] {F G : Nat → Nat → Option α} {Q : α → Prop} (hc : ¬ c) (h : Ev2 G Q) : Ev2 (fun m n => if c then F m n else G m n) Q := by
  simpa only [if_neg hc] using h
abbrev Rd := PT × List BA × Int × Bool
theorem took_nil (s : BA) (L : Int) (f : Bool) : f84_filter_reader_took s [] L f = some (false, [], L, f) := rfl
theorem took_cons (s x : BA) (r : List BA) (L : Int) (f : Bool) : f84_filter_reader_took s (x :: r) L f = some (if x = s then (true, r, L, f) else (false, x :: r, L, f)) := by
  unfold f84_filter_reader_took
  have e : ((x :: r).getD 0 ByteArray.empty) = x := rfl
  rw [if_neg (by simp only [List.length_cons, beq_iff_eq]; omega), if_pos (by simp only [List.length_cons]; omega), e, str_eqD]
  by_cases h : x = s
  · rw [decide_eq_true h, if_neg (by decide), if_pos (by simp [cutOk]; omega), if_pos h]
    simp
  · rw [decide_eq_false h, if_pos (by decide), if_neg h]
def Small (w : List BA) : Prop := ∀ x ∈ w, x.size ≤ 90000
def numS (op : Int) : List BA → PT × List BA × Bool
  | [] => (.nil, [], true)
  | y :: r => (.node op (parseR y.data.toList).1 .nil .nil, r, (parseR y.data.toList).2 != 0)
theorem number_is (op : Int) (w : List BA) (hw : Small w) (L : Int) : f115_filter_reader_number op w L false = some ((numS op w).1, (numS op w).2.1, L, (numS op w).2.2) := by
  unfold f115_filter_reader_number
  cases w with
  | nil => rfl
  | cons y r =>
    have hy := hw y List.mem_cons_self
    have e : ((y :: r).getD 0 ByteArray.empty) = y := rfl
    rw [if_neg (by simp only [List.length_cons, beq_iff_eq]; omega), if_pos (by simp only [List.length_cons]; omega), e]
    have hp : f51_num_Parse y = some (parseR y.data.toList) := by
      unfold f51_num_Parse
      rw [if_pos (by omega)]
    rw [hp, Option.bind_some, if_pos (by simp [cutOk]; omega), if_neg (by decide)]
    simp [numS]
def plainS : List BA → PT × List BA × Bool
  | [] => (.nil, [], true)
  | x :: r => if x = tAll then (.node 1 0 .nil .nil, r, false) else if x = tEmpty then (.node 11 0 .nil .nil, r, false) else if x = tSyn then (.node 2 1 .nil .nil, r, false) else if x = tAck then (.node 2 2 .nil .nil, r, false)
    else if x = tRst then (.node 2 4 .nil .nil, r, false) else if x = tPort then numS 3 r else if x = tSrc then numS 4 r else if x = tDst then numS 5 r else if x = tHas then numS 6 r else if x = tLong then numS 7 r else (.nil, x :: r, true)
theorem plainS_cons (x : BA) (r : List BA) : plainS (x :: r) = if x = tAll then (.node 1 0 .nil .nil, r, false) else if x = tEmpty then (.node 11 0 .nil .nil, r, false) else if x = tSyn then (.node 2 1 .nil .nil, r, false) else if x = tAck then (.node 2 2 .nil .nil, r, false)
    else if x = tRst then (.node 2 4 .nil .nil, r, false) else if x = tPort then numS 3 r else if x = tSrc then numS 4 r else if x = tDst then numS 5 r else if x = tHas then numS 6 r else if x = tLong then numS 7 r else (.nil, x :: r, true) := rfl
theorem plain_is (w : List BA) (hw : Small w) (L : Int) : f112_filter_reader_plain w L false = some ((plainS w).1, (plainS w).2.1, L, (plainS w).2.2) := by
  cases w with
  | nil => rfl
  | cons x r =>
    have hr : Small r := fun y hy => hw y (List.mem_cons_of_mem _ hy)
    unfold f112_filter_reader_plain
    by_cases h1 : x = tAll
    · have e : plainS (x :: r) = (.node 1 0 .nil .nil, r, false) := by rw [plainS_cons, if_pos h1]
      rw [e, took_cons, if_pos h1]; rfl
    rw [took_cons, if_neg h1, Option.bind_some]
    dsimp only
    try rw [if_neg Bool.false_ne_true]
    by_cases h2 : x = tEmpty
    · have e : plainS (x :: r) = (.node 11 0 .nil .nil, r, false) := by rw [plainS_cons, if_neg h1, if_pos h2]
      rw [e, took_cons, if_pos h2]; rfl
    rw [took_cons, if_neg h2, Option.bind_some]
    dsimp only
    try rw [if_neg Bool.false_ne_true]
    by_cases h3 : x = tSyn
    · have e : plainS (x :: r) = (.node 2 1 .nil .nil, r, false) := by rw [plainS_cons, if_neg h1, if_neg h2, if_pos h3]
      rw [e, took_cons, if_pos h3]; rfl
    rw [took_cons, if_neg h3, Option.bind_some]
    dsimp only
    try rw [if_neg Bool.false_ne_true]
    by_cases h4 : x = tAck
    · have e : plainS (x :: r) = (.node 2 2 .nil .nil, r, false) := by rw [plainS_cons, if_neg h1, if_neg h2, if_neg h3, if_pos h4]
      rw [e, took_cons, if_pos h4]; rfl
    rw [took_cons, if_neg h4, Option.bind_some]
    dsimp only
    try rw [if_neg Bool.false_ne_true]
    by_cases h5 : x = tRst
    · have e : plainS (x :: r) = (.node 2 4 .nil .nil, r, false) := by rw [plainS_cons, if_neg h1, if_neg h2, if_neg h3, if_neg h4, if_pos h5]
      rw [e, took_cons, if_pos h5]; rfl
    rw [took_cons, if_neg h5, Option.bind_some]
    dsimp only
    try rw [if_neg Bool.false_ne_true]
    by_cases h6 : x = tPort
    · have e : plainS (x :: r) = numS 3 r := by rw [plainS_cons, if_neg h1, if_neg h2, if_neg h3, if_neg h4, if_neg h5, if_pos h6]
      rw [e, took_cons, if_pos h6, Option.bind_some]; dsimp only; rw [if_pos rfl, number_is 3 r hr]; rfl
    rw [took_cons, if_neg h6, Option.bind_some]
    dsimp only
    try rw [if_neg Bool.false_ne_true]
    by_cases h7 : x = tSrc
    · have e : plainS (x :: r) = numS 4 r := by rw [plainS_cons, if_neg h1, if_neg h2, if_neg h3, if_neg h4, if_neg h5, if_neg h6, if_pos h7]
      rw [e, took_cons, if_pos h7, Option.bind_some]; dsimp only; rw [if_pos rfl, number_is 4 r hr]; rfl
    rw [took_cons, if_neg h7, Option.bind_some]
    dsimp only
    try rw [if_neg Bool.false_ne_true]
    by_cases h8 : x = tDst
    · have e : plainS (x :: r) = numS 5 r := by rw [plainS_cons, if_neg h1, if_neg h2, if_neg h3, if_neg h4, if_neg h5, if_neg h6, if_neg h7, if_pos h8]
      rw [e, took_cons, if_pos h8, Option.bind_some]; dsimp only; rw [if_pos rfl, number_is 5 r hr]; rfl
    rw [took_cons, if_neg h8, Option.bind_some]
    dsimp only
    try rw [if_neg Bool.false_ne_true]
    by_cases h9 : x = tHas
    · have e : plainS (x :: r) = numS 6 r := by rw [plainS_cons, if_neg h1, if_neg h2, if_neg h3, if_neg h4, if_neg h5, if_neg h6, if_neg h7, if_neg h8, if_pos h9]
      rw [e, took_cons, if_pos h9, Option.bind_some]; dsimp only; rw [if_pos rfl, number_is 6 r hr]; rfl
    rw [took_cons, if_neg h9, Option.bind_some]
    dsimp only
    try rw [if_neg Bool.false_ne_true]
    by_cases h10 : x = tLong
    · have e : plainS (x :: r) = numS 7 r := by rw [plainS_cons, if_neg h1, if_neg h2, if_neg h3, if_neg h4, if_neg h5, if_neg h6, if_neg h7, if_neg h8, if_neg h9, if_pos h10]
      rw [e, took_cons, if_pos h10, Option.bind_some]; dsimp only; rw [if_pos rfl, number_is 7 r hr]; rfl
    rw [took_cons, if_neg h10, Option.bind_some]
    dsimp only
    try rw [if_neg Bool.false_ne_true]
    have e : plainS (x :: r) = (.nil, x :: r, true) := by rw [plainS_cons, if_neg h1, if_neg h2, if_neg h3, if_neg h4, if_neg h5, if_neg h6, if_neg h7, if_neg h8, if_neg h9, if_neg h10]
    rw [e]
theorem numS_split (op : Int) (w ρ : List BA) (t : PT) (h : numS op w = (t, ρ, false)) : ∃ u, w = u ++ ρ ∧ numS op u = (t, [], false) := by
  cases w with
  | nil => cases h
  | cons y r =>
    obtain ⟨h1, h2⟩ := Prod.mk.inj h
    obtain ⟨h2, h3⟩ := Prod.mk.inj h2
    subst h2
    exact ⟨[y], rfl, by rw [← h1, ← h3]; rfl⟩
theorem numS_app (op : Int) (u ρ : List BA) (t : PT) (h : numS op u = (t, [], false)) : numS op (u ++ ρ) = (t, ρ, false) := by
  cases u with
  | nil => cases h
  | cons y r =>
    obtain ⟨h1, h2⟩ := Prod.mk.inj h
    obtain ⟨h2, h3⟩ := Prod.mk.inj h2
    have h2 : r = [] := h2
    subst h2
    show ((PT.node op _ _ _), ρ, _) = _
    rw [h1, h3]
theorem plainS_split (w ρ : List BA) (t : PT) (h : plainS w = (t, ρ, false)) : ∃ u, w = u ++ ρ ∧ plainS u = (t, [], false) := by
  cases w with
  | nil => cases h
  | cons x r =>
    have one : ∀ t', (t', r, false) = (t, ρ, false) → plainS [x] = (t', [], false) → ∃ u, x :: r = u ++ ρ ∧ plainS u = (t, [], false) := by
      intro t' q q2
      obtain ⟨e1, e2⟩ := Prod.mk.inj q
      obtain ⟨e2, _⟩ := Prod.mk.inj e2
      subst e1; subst e2
      exact ⟨[x], rfl, q2⟩
    have num : ∀ op, numS op r = (t, ρ, false) → (∀ u, plainS (x :: u) = numS op u) → ∃ u, x :: r = u ++ ρ ∧ plainS u = (t, [], false) := by
      intro op q q2
      obtain ⟨u, e1, e2⟩ := numS_split op r ρ t q
      exact ⟨x :: u, by rw [e1]; rfl, by rw [q2]; exact e2⟩
    rw [plainS_cons] at h
    by_cases h1 : x = tAll
    · rw [if_pos h1] at h; exact one _ h (by rw [plainS_cons, if_pos h1])
    rw [if_neg h1] at h
    by_cases h2 : x = tEmpty
    · rw [if_pos h2] at h; exact one _ h (by rw [plainS_cons, if_neg h1, if_pos h2])
    rw [if_neg h2] at h
    by_cases h3 : x = tSyn
    · rw [if_pos h3] at h; exact one _ h (by rw [plainS_cons, if_neg h1, if_neg h2, if_pos h3])
    rw [if_neg h3] at h
    by_cases h4 : x = tAck
    · rw [if_pos h4] at h; exact one _ h (by rw [plainS_cons, if_neg h1, if_neg h2, if_neg h3, if_pos h4])
    rw [if_neg h4] at h
    by_cases h5 : x = tRst
    · rw [if_pos h5] at h; exact one _ h (by rw [plainS_cons, if_neg h1, if_neg h2, if_neg h3, if_neg h4, if_pos h5])
    rw [if_neg h5] at h
    by_cases h6 : x = tPort
    · rw [if_pos h6] at h; exact num 3 h (fun u => by rw [plainS_cons, if_neg h1, if_neg h2, if_neg h3, if_neg h4, if_neg h5, if_pos h6])
    rw [if_neg h6] at h
    by_cases h7 : x = tSrc
    · rw [if_pos h7] at h; exact num 4 h (fun u => by rw [plainS_cons, if_neg h1, if_neg h2, if_neg h3, if_neg h4, if_neg h5, if_neg h6, if_pos h7])
    rw [if_neg h7] at h
    by_cases h8 : x = tDst
    · rw [if_pos h8] at h; exact num 5 h (fun u => by rw [plainS_cons, if_neg h1, if_neg h2, if_neg h3, if_neg h4, if_neg h5, if_neg h6, if_neg h7, if_pos h8])
    rw [if_neg h8] at h
    by_cases h9 : x = tHas
    · rw [if_pos h9] at h; exact num 6 h (fun u => by rw [plainS_cons, if_neg h1, if_neg h2, if_neg h3, if_neg h4, if_neg h5, if_neg h6, if_neg h7, if_neg h8, if_pos h9])
    rw [if_neg h9] at h
    by_cases h10 : x = tLong
    · rw [if_pos h10] at h; exact num 7 h (fun u => by rw [plainS_cons, if_neg h1, if_neg h2, if_neg h3, if_neg h4, if_neg h5, if_neg h6, if_neg h7, if_neg h8, if_neg h9, if_pos h10])
    rw [if_neg h10] at h
    cases h
theorem plainS_app (u ρ : List BA) (t : PT) (h : plainS u = (t, [], false)) : plainS (u ++ ρ) = (t, ρ, false) := by
  cases u with
  | nil => cases h
  | cons x r =>
    have one : ∀ t', (t', r, false) = (t, [], false) → (t', r ++ ρ, false) = (t, ρ, false) := by
      intro t' q
      obtain ⟨e1, e2⟩ := Prod.mk.inj q
      obtain ⟨e2, _⟩ := Prod.mk.inj e2
      have e2 : r = [] := e2
      rw [e1, e2]; rfl
    rw [plainS_cons] at h
    show plainS (x :: (r ++ ρ)) = _
    rw [plainS_cons]
    split
    · rename_i c; rw [if_pos c] at h; exact one _ h
    rename_i c1; rw [if_neg c1] at h
    split
    · rename_i c; rw [if_pos c] at h; exact one _ h
    rename_i c1; rw [if_neg c1] at h
    split
    · rename_i c; rw [if_pos c] at h; exact one _ h
    rename_i c1; rw [if_neg c1] at h
    split
    · rename_i c; rw [if_pos c] at h; exact one _ h
    rename_i c1; rw [if_neg c1] at h
    split
    · rename_i c; rw [if_pos c] at h; exact one _ h
    rename_i c1; rw [if_neg c1] at h
    split
    · rename_i c; rw [if_pos c] at h; exact numS_app _ _ _ _ h
    rename_i c1; rw [if_neg c1] at h
    split
    · rename_i c; rw [if_pos c] at h; exact numS_app _ _ _ _ h
    rename_i c1; rw [if_neg c1] at h
    split
    · rename_i c; rw [if_pos c] at h; exact numS_app _ _ _ _ h
    rename_i c1; rw [if_neg c1] at h
    split
    · rename_i c; rw [if_pos c] at h; exact numS_app _ _ _ _ h
    rename_i c1; rw [if_neg c1] at h
    split
    · rename_i c; rw [if_pos c] at h; exact numS_app _ _ _ _ h
    rename_i c1; rw [if_neg c1] at h
    cases h
mutual
inductive GOne : Nat → List BA → PT → Prop
  | plain {L : Nat} {u : List BA} {t : PT} (h : plainS u = (t, [], false)) : GOne (L + 1) u t
  | neg {L : Nat} {u : List BA} {t : PT} (h : GOne L u t) : GOne (L + 1) (tNot :: u) (.node 8 0 t .nil)
  | par {L : Nat} {u : List BA} {t : PT} (h : GOr L u t) : GOne (L + 1) (tOpen :: (u ++ [tClose])) t
inductive GAnd : Nat → List BA → PT → Prop
  | one {L : Nat} {u : List BA} {t : PT} (h : GOne L u t) : GAnd L u t
  | and {L : Nat} {u v : List BA} {a b : PT} (h : GAnd L u a) (k : GOne L v b) : GAnd L (u ++ tAnd :: v) (.node 9 0 a b)
inductive GOr : Nat → List BA → PT → Prop
  | and {L : Nat} {u : List BA} {t : PT} (h : GAnd L u t) : GOr L u t
  | or {L : Nat} {u v : List BA} {a b : PT} (h : GOr L u a) (k : GAnd L v b) : GOr L (u ++ tOr :: v) (.node 10 0 a b)
end
theorem Small.app {u v : List BA} (h : Small (u ++ v)) : Small u ∧ Small v := ⟨fun x hx => h x (List.mem_append_left _ hx), fun x hx => h x (List.mem_append_right _ hx)⟩
theorem Small.tail {x : BA} {v : List BA} (h : Small (x :: v)) : Small v := fun y hy => h y (List.mem_cons_of_mem _ hy)
theorem Ev2.ret {α β : Type} {r : β} {k : Nat → Nat → β → Option α} {Q : α → Prop} (h : Ev2 (fun m n => k m n r) Q) : Ev2 (fun m n => (Option.some r).bind (k m n)) Q := h
def Says (G : List BA → PT → Prop) (L : Nat) (w : List BA) (r : Rd) : Prop := r.2.2.2 = false → r.2.2.1 = (L : Int) ∧ ∃ u, u ≠ [] ∧ w = u ++ r.2.1 ∧ G u r.1
theorem plain_ne {u : List BA} {t : PT} (h : plainS u = (t, [], false)) : u ≠ [] := fun e => by rw [e] at h; cases h
/-- one, by what one and or say of a level less. -/
theorem one_says (L : Nat) (hL : L ≤ 1000) (h1 : ∀ w, Small w → Ev2 (fun m n => f99_filter_reader_one (f54_filter_reader_or m) n w (L : Int) false) (Says (GOne L) L w))
    (h2 : ∀ w, Small w → Ev2 (fun m _ => f54_filter_reader_or m w (L : Int) false) (Says (GOr L) L w)) (w : List BA) (hw : Small w) :
    Ev2 (fun m n => f99_filter_reader_one (f54_filter_reader_or m) n w ((L + 1 : Nat) : Int) false) (Says (GOne (L + 1)) (L + 1) w) := by
  apply Ev2.succ
  simp only [f99_filter_reader_one]
  have eL : IntKind.wrap .i64 (((L + 1 : Nat) : Int) - 1) = (L : Int) := by rw [i64_id (by omega) (by omega)]; omega
  rw [eL]
  refine Ev2.neg (by simp only [decide_eq_true_eq]; omega) ?_
  have fin : ∀ r : Rd, Says (fun u t => GOne (L + 1) u t) L w r → Says (GOne (L + 1)) (L + 1) w (r.1, r.2.1, IntKind.wrap .i64 (r.2.2.1 + 1), r.2.2.2) := by
    intro r hr hf
    obtain ⟨e, u, q1, q2, q3⟩ := hr hf
    refine ⟨?_, u, q1, q2, q3⟩
    show IntKind.wrap .i64 (r.2.2.1 + 1) = _
    rw [e, i64_id (by omega) (by omega)]; omega
  refine Ev2.bind (P := Says (fun u t => GOne (L + 1) u t) L w) ?_ (fun r hr => Ev2.some (fin r hr))
  unfold f99_filter_reader_one_D5
  have plain : ∀ x r, w = x :: r → Ev2 (fun m n => (f112_filter_reader_plain (x :: r) (L : Int) false).bind fun p => some (p.1, p.2.1, p.2.2.1, p.2.2.2)) (Says (fun u t => GOne (L + 1) u t) L w) := by
    intro x r e
    subst e
    rw [plain_is (x :: r) hw]
    refine Ev2.some (fun hf => ⟨rfl, ?_⟩)
    obtain ⟨u, q1, q2⟩ := plainS_split (x :: r) (plainS (x :: r)).2.1 (plainS (x :: r)).1 (by
      have hf : (plainS (x :: r)).2.2 = false := hf
      rw [← hf])
    exact ⟨u, plain_ne q2, q1, .plain q2⟩
  cases w with
  | nil =>
    rw [took_nil]
    refine Ev2.ret (Ev2.neg Bool.false_ne_true ?_)
    dsimp only
    rw [took_nil]
    refine Ev2.ret (Ev2.neg Bool.false_ne_true ?_)
    exact Ev2.some (fun hf => by cases hf)
  | cons x r =>
    have hr := hw.tail
    by_cases hn : x = tNot
    · rw [took_cons, if_pos hn]
      refine Ev2.ret (Ev2.pos rfl ?_)
      refine Ev2.bind (h1 r hr) (fun a ha => Ev2.some (fun hf => ?_))
      obtain ⟨e, u, q1, q2, q3⟩ := ha hf
      refine ⟨e, x :: u, by simp, by rw [q2]; rfl, ?_⟩
      rw [hn]
      exact .neg q3
    · rw [took_cons, if_neg hn]
      refine Ev2.ret (Ev2.neg Bool.false_ne_true ?_)
      dsimp only
      by_cases ho : x = tOpen
      · rw [took_cons, if_pos ho]
        refine Ev2.ret (Ev2.pos rfl ?_)
        refine Ev2.bind (h2 r hr) (fun a ha => ?_)
        obtain ⟨t, ρ, l, f⟩ := a
        dsimp only
        cases ρ with
        | nil =>
          rw [took_nil]
          exact Ev2.some (fun hf => by cases hf)
        | cons y ρ =>
          by_cases hc : y = tClose
          · rw [took_cons, if_pos hc]
            refine Ev2.ret (Ev2.neg (show ¬ (!true) = true by decide) ?_)
            refine Ev2.some (fun hf => ?_)
            obtain ⟨e, u, q1, q2, q3⟩ := ha hf
            refine ⟨e, x :: (u ++ [y]), by simp, ?_, ?_⟩
            · have q2 : r = u ++ y :: ρ := q2
              rw [q2]; simp
            · rw [ho, hc]; exact .par q3
          · rw [took_cons, if_neg hc]
            refine Ev2.ret (Ev2.pos (show (!false) = true from rfl) ?_)
            exact Ev2.some (fun hf => by cases hf)
      · rw [took_cons, if_neg ho]
        refine Ev2.ret (Ev2.neg Bool.false_ne_true ?_)
        exact plain x r rfl
theorem one_zero (w : List BA) : Ev2 (fun m n => f99_filter_reader_one (f54_filter_reader_or m) n w ((0 : Nat) : Int) false) (Says (GOne 0) 0 w) := by
  apply Ev2.succ
  simp only [f99_filter_reader_one]
  exact Ev2.pos (by decide) (Ev2.some (fun hf => by cases hf))
/-- The loops of and, or. -/
def Goes2 (G : List BA → PT → Prop) (L : Nat) (t : PT) (w : List BA) (r : Rd) : Prop := r.2.2.2 = false → r.2.2.1 = (L : Int) ∧ ∃ u, w = u ++ r.2.1 ∧ ∀ v, G v t → G (v ++ u) r.1
theorem andL_fail (t : PT) (w : List BA) (l : Int) : Ev2 (fun m n => f83_filter_reader_and_L2 (f54_filter_reader_or m) n t w l true) (fun r => r.2.2.2 = true) := by
  apply Ev2.succ
  simp only [f83_filter_reader_and_L2]
  exact Ev2.neg (by decide) (Ev2.some rfl)
theorem andL_says (L : Nat) (h1 : ∀ w, Small w → Ev2 (fun m n => f99_filter_reader_one (f54_filter_reader_or m) n w (L : Int) false) (Says (GOne L) L w)) : ∀ (k : Nat) (w : List BA) (hk : w.length ≤ k) (hw : Small w) (t : PT),
    Ev2 (fun m n => f83_filter_reader_and_L2 (f54_filter_reader_or m) n t w (L : Int) false) (Goes2 (GAnd L) L t w) := by
  intro k
  induction k with
  | zero =>
    intro w hk hw t
    obtain rfl : w = [] := List.eq_nil_of_length_eq_zero (by omega)
    apply Ev2.succ
    simp only [f83_filter_reader_and_L2]
    refine Ev2.pos (by decide) ?_
    rw [took_nil]
    exact Ev2.ret (Ev2.neg Bool.false_ne_true (Ev2.some (fun _ => ⟨rfl, [], rfl, fun v hv => by rw [List.append_nil]; exact hv⟩)))
  | succ k ih =>
    intro w hk hw t
    apply Ev2.succ
    simp only [f83_filter_reader_and_L2]
    refine Ev2.pos (by decide) ?_
    cases w with
    | nil =>
      rw [took_nil]
      exact Ev2.ret (Ev2.neg Bool.false_ne_true (Ev2.some (fun _ => ⟨rfl, [], rfl, fun v hv => by rw [List.append_nil]; exact hv⟩)))
    | cons x r =>
      by_cases hx : x = tAnd
      · rw [took_cons, if_pos hx]
        refine Ev2.ret (Ev2.pos rfl (Ev2.bind (h1 r hw.tail) (fun a ha => ?_)))
        obtain ⟨b, ρ, l, f⟩ := a
        dsimp only
        cases f with
        | true => exact (andL_fail _ _ _).mono (fun q hq hf => by rw [hq] at hf; cases hf)
        | false =>
          obtain ⟨e, u, q1, q2, q3⟩ := ha rfl
          have e : l = (L : Int) := e
          have p0 : r = u ++ ρ := q2
          subst e
          have hlen : ρ.length ≤ k := by
            have := congrArg List.length p0
            rw [List.length_append] at this
            rw [List.length_cons] at hk
            have : u.length ≠ 0 := fun z => q1 (List.eq_nil_of_length_eq_zero z)
            omega
          have hs : Small ρ := by rw [p0] at hw; exact (Small.app hw.tail).2
          refine (ih ρ hlen hs (.node 9 0 t b)).mono (fun c hc hf => ?_)
          obtain ⟨e1, u', p1, p2⟩ := hc hf
          refine ⟨e1, x :: (u ++ u'), by rw [p0, p1]; simp, fun v hv => ?_⟩
          have := p2 (v ++ tAnd :: u) (.and hv q3)
          rw [hx]
          simpa using this
      · rw [took_cons, if_neg hx]
        exact Ev2.ret (Ev2.neg Bool.false_ne_true (Ev2.some (fun _ => ⟨rfl, [], rfl, fun v hv => by rw [List.append_nil]; exact hv⟩)))
theorem and_says (L : Nat) (h1 : ∀ w, Small w → Ev2 (fun m n => f99_filter_reader_one (f54_filter_reader_or m) n w (L : Int) false) (Says (GOne L) L w)) (w : List BA) (hw : Small w) :
    Ev2 (fun m n => f83_filter_reader_and (f54_filter_reader_or m) n w (L : Int) false) (Says (GAnd L) L w) := by
  unfold f83_filter_reader_and
  refine Ev2.bind (h1 w hw) (fun a ha => ?_)
  obtain ⟨b, ρ, l, f⟩ := a
  dsimp only
  cases f with
  | true => exact Ev2.bind (andL_fail b ρ l) (fun q hq => Ev2.some (fun hf => by have hf : q.2.2.2 = false := hf; rw [hq] at hf; cases hf))
  | false =>
    obtain ⟨e, u, q1, q2, q3⟩ := ha rfl
    have e : l = (L : Int) := e
    have p0 : w = u ++ ρ := q2
    subst e
    have hs : Small ρ := by rw [p0] at hw; exact (Small.app hw).2
    refine Ev2.bind (andL_says L h1 ρ.length ρ (Nat.le_refl _) hs b) (fun c hc => Ev2.some (fun hf => ?_))
    obtain ⟨e1, u', p1, p2⟩ := hc hf
    refine ⟨e1, u ++ u', by simp [q1], ?_, p2 u (.one q3)⟩
    show w = (u ++ u') ++ c.2.1
    rw [p0, p1]; simp
theorem orL_fail (t : PT) (w : List BA) (l : Int) : Ev2 (fun m n => f54_filter_reader_or_L2 (f54_filter_reader_or m) n t w l true) (fun r => r.2.2.2 = true) := by
  apply Ev2.succ
  simp only [f54_filter_reader_or_L2]
  exact Ev2.neg (by decide) (Ev2.some rfl)
theorem orL_says (L : Nat) (h1 : ∀ w, Small w → Ev2 (fun m n => f83_filter_reader_and (f54_filter_reader_or m) n w (L : Int) false) (Says (GAnd L) L w)) : ∀ (k : Nat) (w : List BA) (hk : w.length ≤ k) (hw : Small w) (t : PT),
    Ev2 (fun m n => f54_filter_reader_or_L2 (f54_filter_reader_or m) n t w (L : Int) false) (Goes2 (GOr L) L t w) := by
  intro k
  induction k with
  | zero =>
    intro w hk hw t
    obtain rfl : w = [] := List.eq_nil_of_length_eq_zero (by omega)
    apply Ev2.succ
    simp only [f54_filter_reader_or_L2]
    refine Ev2.pos (by decide) ?_
    rw [took_nil]
    exact Ev2.ret (Ev2.neg Bool.false_ne_true (Ev2.some (fun _ => ⟨rfl, [], rfl, fun v hv => by rw [List.append_nil]; exact hv⟩)))
  | succ k ih =>
    intro w hk hw t
    apply Ev2.succ
    simp only [f54_filter_reader_or_L2]
    refine Ev2.pos (by decide) ?_
    cases w with
    | nil =>
      rw [took_nil]
      exact Ev2.ret (Ev2.neg Bool.false_ne_true (Ev2.some (fun _ => ⟨rfl, [], rfl, fun v hv => by rw [List.append_nil]; exact hv⟩)))
    | cons x r =>
      by_cases hx : x = tOr
      · rw [took_cons, if_pos hx]
        refine Ev2.ret (Ev2.pos rfl (Ev2.bind (h1 r hw.tail) (fun a ha => ?_)))
        obtain ⟨b, ρ, l, f⟩ := a
        dsimp only
        cases f with
        | true => exact (orL_fail _ _ _).mono (fun q hq hf => by rw [hq] at hf; cases hf)
        | false =>
          obtain ⟨e, u, q1, q2, q3⟩ := ha rfl
          have e : l = (L : Int) := e
          have p0 : r = u ++ ρ := q2
          subst e
          have hlen : ρ.length ≤ k := by
            have := congrArg List.length p0
            rw [List.length_append] at this
            rw [List.length_cons] at hk
            have : u.length ≠ 0 := fun z => q1 (List.eq_nil_of_length_eq_zero z)
            omega
          have hs : Small ρ := by rw [p0] at hw; exact (Small.app hw.tail).2
          refine (ih ρ hlen hs (.node 10 0 t b)).mono (fun c hc hf => ?_)
          obtain ⟨e1, u', p1, p2⟩ := hc hf
          refine ⟨e1, x :: (u ++ u'), by rw [p0, p1]; simp, fun v hv => ?_⟩
          have := p2 (v ++ tOr :: u) (.or hv q3)
          rw [hx]
          simpa using this
      · rw [took_cons, if_neg hx]
        exact Ev2.ret (Ev2.neg Bool.false_ne_true (Ev2.some (fun _ => ⟨rfl, [], rfl, fun v hv => by rw [List.append_nil]; exact hv⟩)))
theorem or_says (L : Nat) (h1 : ∀ w, Small w → Ev2 (fun m n => f83_filter_reader_and (f54_filter_reader_or m) n w (L : Int) false) (Says (GAnd L) L w)) (w : List BA) (hw : Small w) :
    Ev (fun n => f54_filter_reader_or n w (L : Int) false) (Says (GOr L) L w) := by
  apply Ev.succ
  simp only [f54_filter_reader_or]
  refine Ev2.diag (F := fun m n => (f83_filter_reader_and (f54_filter_reader_or m) n w (L : Int) false).bind fun r => (f54_filter_reader_or_L2 (f54_filter_reader_or m) n r.1 r.2.1 r.2.2.1 r.2.2.2).bind fun w160 => some (w160.1, w160.2.1, w160.2.2.1, w160.2.2.2)) ?_
  refine Ev2.bind (h1 w hw) (fun a ha => ?_)
  obtain ⟨b, ρ, l, f⟩ := a
  dsimp only
  cases f with
  | true => exact Ev2.bind (orL_fail b ρ l) (fun q hq => Ev2.some (fun hf => by have hf : q.2.2.2 = false := hf; rw [hq] at hf; cases hf))
  | false =>
    obtain ⟨e, u, q1, q2, q3⟩ := ha rfl
    have e : l = (L : Int) := e
    have p0 : w = u ++ ρ := q2
    subst e
    have hs : Small ρ := by rw [p0] at hw; exact (Small.app hw).2
    refine Ev2.bind (orL_says L h1 ρ.length ρ (Nat.le_refl _) hs b) (fun c hc => Ev2.some (fun hf => ?_))
    obtain ⟨e1, u', p1, p2⟩ := hc hf
    refine ⟨e1, u ++ u', by simp [q1], ?_, p2 u (.and q3)⟩
    show w = (u ++ u') ++ c.2.1
    rw [p0, p1]; simp
/-- All levels. -/
theorem one_all : ∀ (L : Nat) (hL : L ≤ 1000) (w : List BA), Small w → Ev2 (fun m n => f99_filter_reader_one (f54_filter_reader_or m) n w (L : Int) false) (Says (GOne L) L w)
  | 0, _, w, hw => one_zero w
  | L + 1, hL, w, hw => by
    have ih := one_all L (by omega)
    exact one_says L (by omega) ih (fun w hw => Ev2.left (or_says L (and_says L ih) w hw)) w hw
/-- The reader reads the grammar. -/
theorem or_all (L : Nat) (hL : L ≤ 1000) (w : List BA) (hw : Small w) : Ev (fun n => f54_filter_reader_or n w (L : Int) false) (Says (GOr L) L w) :=
  or_says L (and_says L (one_all L hL)) w hw

def NotHead (s : BA) (ρ : List BA) : Prop := ∀ x r, ρ = x :: r → x ≠ s
theorem andL_stop (t : PT) (ρ : List BA) (L : Int) (h : NotHead tAnd ρ) : Ev2 (fun m n => f83_filter_reader_and_L2 (f54_filter_reader_or m) n t ρ L false) (fun r => r = (t, ρ, L, false)) := by
  apply Ev2.succ
  simp only [f83_filter_reader_and_L2]
  refine Ev2.pos (by decide) ?_
  cases ρ with
  | nil => rw [took_nil]; exact Ev2.ret (Ev2.neg Bool.false_ne_true (Ev2.some rfl))
  | cons x r => rw [took_cons, if_neg (h x r rfl)]; exact Ev2.ret (Ev2.neg Bool.false_ne_true (Ev2.some rfl))
theorem orL_stop (t : PT) (ρ : List BA) (L : Int) (h : NotHead tOr ρ) : Ev2 (fun m n => f54_filter_reader_or_L2 (f54_filter_reader_or m) n t ρ L false) (fun r => r = (t, ρ, L, false)) := by
  apply Ev2.succ
  simp only [f54_filter_reader_or_L2]
  refine Ev2.pos (by decide) ?_
  cases ρ with
  | nil => rw [took_nil]; exact Ev2.ret (Ev2.neg Bool.false_ne_true (Ev2.some rfl))
  | cons x r => rw [took_cons, if_neg (h x r rfl)]; exact Ev2.ret (Ev2.neg Bool.false_ne_true (Ev2.some rfl))
theorem plain_head {x : BA} {r : List BA} {t : PT} (h : plainS (x :: r) = (t, [], false)) : x ≠ tNot ∧ x ≠ tOpen ∧ x ≠ tClose ∧ x ≠ tAnd ∧ x ≠ tOr := by
  have bad : ∀ y : BA, (y = tAll ∨ y = tEmpty ∨ y = tSyn ∨ y = tAck ∨ y = tRst ∨ y = tPort ∨ y = tSrc ∨ y = tDst ∨ y = tHas ∨ y = tLong) → (y ≠ tNot ∧ y ≠ tOpen ∧ y ≠ tClose ∧ y ≠ tAnd ∧ y ≠ tOr) := by
    intro y hy
    rcases hy with rfl | rfl | rfl | rfl | rfl | rfl | rfl | rfl | rfl | rfl <;> decide
  apply bad
  apply Classical.byContradiction
  intro q
  simp only [not_or] at q
  obtain ⟨h1, h2, h3, h4, h5, h6, h7, h8, h9, h10⟩ := q
  rw [plainS_cons, if_neg h1, if_neg h2, if_neg h3, if_neg h4, if_neg h5, if_neg h6, if_neg h7, if_neg h8, if_neg h9, if_neg h10] at h
  cases h
mutual
theorem one_reads : ∀ {L : Nat} {u : List BA} {t : PT} (h : GOne L u t) (hL : L ≤ 1000) (ρ : List BA) (hs : Small (u ++ ρ)), Ev2 (fun m n => f99_filter_reader_one (f54_filter_reader_or m) n (u ++ ρ) (L : Int) false) (fun r => r = (t, ρ, (L : Int), false))
  | _, _, _, .plain (L := L) (u := u) (t := t) h, hL, ρ, hs => by
    have eL : IntKind.wrap .i64 (((L + 1 : Nat) : Int) - 1) = (L : Int) := by rw [i64_id (by omega) (by omega)]; omega
    have eB : IntKind.wrap .i64 ((L : Int) + 1) = ((L + 1 : Nat) : Int) := by rw [i64_id (by omega) (by omega)]; omega
    apply Ev2.succ
    simp only [f99_filter_reader_one]
    rw [eL]
    refine Ev2.neg (by simp only [decide_eq_true_eq]; omega) (Ev2.bind (P := fun r => r = (t, ρ, (L : Int), false)) ?_ ?_)
    · unfold f99_filter_reader_one_D5
      cases u with
      | nil => cases h
      | cons x r =>
        obtain ⟨p1, p2, _⟩ := plain_head h
        show Ev2 (fun m n => (f84_filter_reader_took _ (x :: (r ++ ρ)) (L : Int) false).bind _) _
        rw [took_cons, if_neg p1]
        refine Ev2.ret (Ev2.neg Bool.false_ne_true ?_)
        dsimp only
        rw [took_cons, if_neg p2]
        refine Ev2.ret (Ev2.neg Bool.false_ne_true ?_)
        have e := plainS_app (x :: r) ρ t h
        have e : plainS (x :: (r ++ ρ)) = (t, ρ, false) := e
        dsimp only
        rw [plain_is (x :: (r ++ ρ)) hs, e]
        exact Ev2.some rfl
    · rintro _ rfl
      refine Ev2.some ?_
      dsimp only
      rw [eB]
  | _, _, _, .neg (L := L) (u := u) (t := t) h, hL, ρ, hs => by
    have eL : IntKind.wrap .i64 (((L + 1 : Nat) : Int) - 1) = (L : Int) := by rw [i64_id (by omega) (by omega)]; omega
    have eB : IntKind.wrap .i64 ((L : Int) + 1) = ((L + 1 : Nat) : Int) := by rw [i64_id (by omega) (by omega)]; omega
    have ih := one_reads h (by omega) ρ (Small.tail (x := tNot) hs)
    apply Ev2.succ
    simp only [f99_filter_reader_one]
    rw [eL]
    refine Ev2.neg (by simp only [decide_eq_true_eq]; omega) (Ev2.bind (P := fun r => r = (.node 8 0 t .nil, ρ, (L : Int), false)) ?_ ?_)
    · unfold f99_filter_reader_one_D5
      show Ev2 (fun m n => (f84_filter_reader_took _ (tNot :: (u ++ ρ)) (L : Int) false).bind _) _
      rw [took_cons, if_pos rfl]
      refine Ev2.ret (Ev2.pos rfl (Ev2.bind ih ?_))
      rintro _ rfl
      exact Ev2.some rfl
    · rintro _ rfl
      refine Ev2.some ?_
      dsimp only
      rw [eB]
  | _, _, _, .par (L := L) (u := u) (t := t) h, hL, ρ, hs => by
    have eL : IntKind.wrap .i64 (((L + 1 : Nat) : Int) - 1) = (L : Int) := by rw [i64_id (by omega) (by omega)]; omega
    have eB : IntKind.wrap .i64 ((L : Int) + 1) = ((L + 1 : Nat) : Int) := by rw [i64_id (by omega) (by omega)]; omega
    have ea : tOpen :: (u ++ [tClose]) ++ ρ = tOpen :: (u ++ tClose :: ρ) := by simp
    rw [ea] at hs ⊢
    have ih := or_reads h (by omega) (tClose :: ρ) (fun r => r = (t, tClose :: ρ, (L : Int), false)) hs.tail (by rintro _ _ e; cases e; decide) (orL_stop t (tClose :: ρ) L (by rintro _ _ e; cases e; decide))
    apply Ev2.succ
    simp only [f99_filter_reader_one]
    rw [eL]
    refine Ev2.neg (by simp only [decide_eq_true_eq]; omega) (Ev2.bind (P := fun r => r = (t, ρ, (L : Int), false)) ?_ ?_)
    · unfold f99_filter_reader_one_D5
      rw [took_cons, if_neg (show ¬ tOpen = tNot by decide)]
      refine Ev2.ret (Ev2.neg Bool.false_ne_true ?_)
      dsimp only
      rw [took_cons, if_pos rfl]
      refine Ev2.ret (Ev2.pos rfl (Ev2.bind (Ev2.left ih) ?_))
      rintro _ rfl
      dsimp only
      rw [took_cons, if_pos rfl]
      exact Ev2.ret (Ev2.neg (show ¬ (!true) = true by decide) (Ev2.some rfl))
    · rintro _ rfl
      refine Ev2.some ?_
      dsimp only
      rw [eB]
theorem and_reads : ∀ {L : Nat} {u : List BA} {t : PT} (h : GAnd L u t) (hL : L ≤ 1000) (ρ : List BA) (Q : Rd → Prop) (hs : Small (u ++ ρ)) (hr : Ev2 (fun m n => f83_filter_reader_and_L2 (f54_filter_reader_or m) n t ρ (L : Int) false) Q),
    Ev2 (fun m n => f83_filter_reader_and (f54_filter_reader_or m) n (u ++ ρ) (L : Int) false) Q
  | _, _, _, .one h, hL, ρ, Q, hs, hr => by
    have ih := one_reads h hL ρ hs
    unfold f83_filter_reader_and
    refine Ev2.bind ih ?_
    rintro _ rfl
    exact Ev2.bind hr (fun r hr => Ev2.some hr)
  | _, _, _, .and (L := L) (u := u) (v := v) (a := a) (b := b) h k, hL, ρ, Q, hs, hr => by
    have ea : u ++ tAnd :: v ++ ρ = u ++ (tAnd :: (v ++ ρ)) := by simp
    rw [ea] at hs ⊢
    have ik := one_reads k hL ρ (Small.tail (Small.app hs).2)
    refine and_reads h hL (tAnd :: (v ++ ρ)) Q hs ?_
    apply Ev2.succ
    simp only [f83_filter_reader_and_L2]
    refine Ev2.pos (by decide) ?_
    rw [took_cons, if_pos rfl]
    refine Ev2.ret (Ev2.pos rfl (Ev2.bind ik ?_))
    rintro _ rfl
    exact hr
theorem or_reads : ∀ {L : Nat} {u : List BA} {t : PT} (h : GOr L u t) (hL : L ≤ 1000) (ρ : List BA) (Q : Rd → Prop) (hs : Small (u ++ ρ)) (hn : NotHead tAnd ρ) (hr : Ev2 (fun m n => f54_filter_reader_or_L2 (f54_filter_reader_or m) n t ρ (L : Int) false) Q),
    Ev (fun n => f54_filter_reader_or n (u ++ ρ) (L : Int) false) Q
  | _, _, _, .and (L := L) (u := u) (t := t) h, hL, ρ, Q, hs, hn, hr => by
    have ih := and_reads h hL ρ (fun r => r = (t, ρ, (L : Int), false)) hs (andL_stop t ρ L hn)
    apply Ev.succ
    simp only [f54_filter_reader_or]
    refine Ev2.diag (F := fun m n => (f83_filter_reader_and (f54_filter_reader_or m) n (u ++ ρ) (L : Int) false).bind fun r => (f54_filter_reader_or_L2 (f54_filter_reader_or m) n r.1 r.2.1 r.2.2.1 r.2.2.2).bind fun w160 => some (w160.1, w160.2.1, w160.2.2.1, w160.2.2.2)) ?_
    refine Ev2.bind ih ?_
    rintro _ rfl
    exact Ev2.bind hr (fun r hr => Ev2.some hr)
  | _, _, _, .or (L := L) (u := u) (v := v) (a := a) (b := b) h k, hL, ρ, Q, hs, hn, hr => by
    have ea : u ++ tOr :: v ++ ρ = u ++ (tOr :: (v ++ ρ)) := by simp
    rw [ea] at hs ⊢
    have ik := and_reads k hL ρ (fun r => r = (b, ρ, (L : Int), false)) (Small.tail (Small.app hs).2) (andL_stop b ρ L hn)
    refine or_reads h hL (tOr :: (v ++ ρ)) Q hs (by rintro _ _ e; cases e; decide) ?_
    apply Ev2.succ
    simp only [f54_filter_reader_or_L2]
    refine Ev2.pos (by decide) ?_
    rw [took_cons, if_pos rfl]
    refine Ev2.ret (Ev2.pos rfl (Ev2.bind ik ?_))
    rintro _ rfl
    exact hr
end
/-- How a piece opens or closes. -/
def dep (x : BA) : Int := if x = tOpen then 1 else if x = tClose then -1 else 0
theorem dep_range (x : BA) : -1 ≤ dep x ∧ dep x ≤ 1 := by unfold dep; split <;> (try split) <;> omega
/-- The last place of a word outside all brackets. -/
def lastS (s : BA) : List BA → Int → Int → Nat → Int
  | [], at_, _, _ => at_
  | x :: r, at_, o, i => lastS s r (if x = s ∧ o + dep x = 0 then (i : Int) else at_) (o + dep x) (i + 1)
/-- Does the last bracket close the first one? -/
def closesS : List BA → Int → Bool
  | [], o => decide (o = 0)
  | x :: r, o => if o + dep x = 0 ∧ r ≠ [] then false else closesS r (o + dep x)
def G5 (r : Bool ⊕ Int) : Bool := match r with
  | .inl e => e
  | .inr o => decide (o = 0)
def depS : List BA → Int
  | [] => 0
  | x :: r => dep x + depS r
theorem depS_app : ∀ u v : List BA, depS (u ++ v) = depS u + depS v
  | [], v => by simp [depS]
  | x :: u, v => by
    show dep x + depS (u ++ v) = dep x + depS u + depS v
    rw [depS_app u v]; omega
/-- A word doesn't stand at depth 0. -/
def Free (s : BA) : List BA → Int → Prop
  | [], _ => True
  | x :: r, o => ¬ (x = s ∧ o + dep x = 0) ∧ Free s r (o + dep x)
theorem free_app (s : BA) : ∀ (u v : List BA) (o : Int), Free s (u ++ v) o ↔ Free s u o ∧ Free s v (o + depS u)
  | [], v, o => by simp [Free, depS]
  | x :: u, v, o => by
    show (_ ∧ Free s (u ++ v) (o + dep x)) ↔ ((_ ∧ Free s u (o + dep x)) ∧ Free s v (o + (dep x + depS u)))
    rw [free_app s u v, show o + dep x + depS u = o + (dep x + depS u) by omega, and_assoc]
theorem lastS_app (s : BA) : ∀ (u v : List BA) (a o : Int) (i : Nat), lastS s (u ++ v) a o i = lastS s v (lastS s u a o i) (o + depS u) (i + u.length)
  | [], v, a, o, i => by simp [lastS, depS]
  | x :: u, v, a, o, i => by
    show lastS s (u ++ v) _ (o + dep x) (i + 1) = lastS s v (lastS s u _ (o + dep x) (i + 1)) (o + (dep x + depS u)) (i + (u.length + 1))
    rw [lastS_app s u v, show o + dep x + depS u = o + (dep x + depS u) by omega, show i + 1 + u.length = i + (u.length + 1) by omega]
theorem lastS_free (s : BA) : ∀ (u : List BA) (a o : Int) (i : Nat), Free s u o → lastS s u a o i = a
  | [], a, o, i, h => rfl
  | x :: u, a, o, i, h => by
    rw [lastS, if_neg h.1]
    exact lastS_free s u a _ _ h.2
/-- Where the last one stands, or that there is none. -/
theorem lastS_cases (s : BA) : ∀ (u : List BA) (a o : Int) (i : Nat), (lastS s u a o i = a ∧ Free s u o) ∨ ∃ p q, u = p ++ s :: q ∧ o + depS p + dep s = 0 ∧ Free s q 0 ∧ lastS s u a o i = ((i + p.length : Nat) : Int)
  | [], a, o, i => .inl ⟨rfl, trivial⟩
  | x :: u, a, o, i => by
    rw [lastS]
    rcases lastS_cases s u (if x = s ∧ o + dep x = 0 then (i : Int) else a) (o + dep x) (i + 1) with ⟨h1, h2⟩ | ⟨p, q, h1, h2, h3, h4⟩
    · by_cases hx : x = s ∧ o + dep x = 0
      · refine .inr ⟨[], u, by rw [hx.1]; rfl, ?_, ?_, ?_⟩
        · have := hx.2; rw [hx.1] at this; simp [depS]; omega
        · rw [hx.2] at h2; exact h2
        · rw [h1, if_pos hx]; simp
      · exact .inl ⟨by rw [h1, if_neg hx], hx, h2⟩
    · refine .inr ⟨x :: p, q, by rw [h1]; rfl, ?_, h3, ?_⟩
      · show o + (dep x + depS p) + dep s = 0
        omega
      · rw [h4]
        show ((i + 1 + p.length : Nat) : Int) = ((i + (p.length + 1) : Nat) : Int)
        congr 1; omega
/-- Brackets never close too much. -/
def Up (u : List BA) : Prop := ∀ p q, u = p ++ q → 0 ≤ depS p
theorem Up.free (s : BA) : ∀ (u : List BA) (o : Int), (∀ p q, u = p ++ q → 1 ≤ o + depS p) → Free s u o
  | [], o, h => trivial
  | x :: u, o, h => by
    have h1 := h [x] u rfl
    have e : depS [x] = dep x := by simp [depS]
    rw [e] at h1
    refine ⟨fun q => by omega, Up.free s u _ (fun p q e => ?_)⟩
    have h2 := h (x :: p) q (by rw [e]; rfl)
    have e2 : depS (x :: p) = dep x + depS p := rfl
    omega
theorem Up.app {u v : List BA} (hu : Up u) (hd : depS u = 0) (hv : Up v) : Up (u ++ v) := by
  intro p q e
  rcases List.append_eq_append_iff.1 e.symm with ⟨a, h1, h2⟩ | ⟨a, h1, h2⟩
  · exact hu p a h1
  · rw [h1, depS_app, hd]
    have := hv a q h2
    omega
theorem dep_word {x : BA} (h1 : x ≠ tOpen) (h2 : x ≠ tClose) : dep x = 0 := by unfold dep; rw [if_neg h1, if_neg h2]
/-- What the grammar's lists are. -/
structure Fits (u : List BA) : Prop where
  zero : depS u = 0
  up : Up u
theorem Fits.cons {x : BA} {u : List BA} (hx : dep x = 0) (h : Fits u) : Fits (x :: u) := by
  refine ⟨by show dep x + depS u = 0; rw [hx, h.zero]; rfl, fun p q e => ?_⟩
  cases p with
  | nil => exact Int.le_refl _
  | cons y p =>
    have e1 : x = y := (List.cons.inj e).1
    have e2 : u = p ++ q := (List.cons.inj e).2
    have := h.up p q e2
    show 0 ≤ dep y + depS p
    rw [← e1, hx]; omega
theorem Fits.nil : Fits [] := ⟨rfl, fun p q e => by
  have : p = [] := (List.append_eq_nil_iff.1 e.symm).1
  rw [this]; exact Int.le_refl _⟩
theorem Fits.app {u v : List BA} (hu : Fits u) (hv : Fits v) : Fits (u ++ v) := ⟨by rw [depS_app, hu.zero, hv.zero]; rfl, Up.app hu.up hu.zero hv.up⟩
theorem plain_fits : ∀ {u : List BA} {t : PT} (h : plainS u = (t, [], false)), Fits u ∧ Free tOr u 0 ∧ Free tAnd u 0 := by
  intro u t h
  cases u with
  | nil => cases h
  | cons x r =>
    obtain ⟨_, p2, p3, p4, p5⟩ := plain_head h
    have num : ∀ op, numS op r = (t, [], false) → Fits r ∧ Free tOr r 0 ∧ Free tAnd r 0 := by
      intro op q
      cases r with
      | nil => cases q
      | cons y r =>
        obtain ⟨_, q2⟩ := Prod.mk.inj q
        obtain ⟨q2, q3⟩ := Prod.mk.inj q2
        have q2 : r = [] := q2
        subst q2
        have ok : ∀ s : BA, (parseR s.data.toList).2 ≠ 0 → y ≠ s := by
          intro s hs e
          subst e
          have q3 : ((parseR y.data.toList).2 != 0) = false := q3
          simp only [bne_eq_false_iff_eq] at q3
          exact hs q3
        have e1 := ok tOpen (by decide)
        have e2 := ok tClose (by decide)
        have e3 := ok tOr (by decide)
        have e4 := ok tAnd (by decide)
        exact ⟨Fits.cons (dep_word e1 e2) Fits.nil, ⟨fun q => e3 q.1, trivial⟩, ⟨fun q => e4 q.1, trivial⟩⟩
    have hr : Fits r ∧ Free tOr r 0 ∧ Free tAnd r 0 := by
      have nilc : ∀ t' : PT, (t', r, false) = (t, ([] : List BA), false) → Fits r ∧ Free tOr r 0 ∧ Free tAnd r 0 := by
        intro t' q
        have e : r = [] := (Prod.mk.inj (Prod.mk.inj q).2).1
        subst e
        exact ⟨Fits.nil, trivial, trivial⟩
      rw [plainS_cons] at h
      repeat' split at h
      all_goals first | exact nilc _ h | exact num _ h | cases h
    have hd := dep_word p2 p3
    refine ⟨Fits.cons hd hr.1, ⟨fun q => p5 q.1, ?_⟩, ⟨fun q => p4 q.1, ?_⟩⟩
    · rw [hd]; exact hr.2.1
    · rw [hd]; exact hr.2.2
theorem par_fits {u : List BA} (h : Fits u) : Fits (tOpen :: (u ++ [tClose])) ∧ ∀ s, dep s = 0 → Free s (tOpen :: (u ++ [tClose])) 0 := by
  have e1 : dep tOpen = 1 := by decide
  have e2 : dep tClose = -1 := by decide
  refine ⟨⟨?_, fun p q e => ?_⟩, fun s hs => ?_⟩
  · show dep tOpen + depS (u ++ [tClose]) = 0
    rw [depS_app, h.zero, e1]
    show 1 + (0 + (dep tClose + 0)) = 0
    rw [e2]; rfl
  · cases p with
    | nil => exact Int.le_refl _
    | cons y p =>
      have f1 : tOpen = y := (List.cons.inj e).1
      have f2 : u ++ [tClose] = p ++ q := (List.cons.inj e).2
      show 0 ≤ dep y + depS p
      rw [← f1, e1]
      rcases List.append_eq_append_iff.1 f2 with ⟨a, h1, h2⟩ | ⟨a, h1, h2⟩
      · rw [h1, depS_app, h.zero]
        cases a with
        | nil => simp [depS]
        | cons z a =>
          have g1 : tClose = z := (List.cons.inj h2).1
          have g2 : a ++ q = [] := (List.cons.inj h2).2.symm
          have g3 : a = [] := (List.append_eq_nil_iff.1 g2).1
          subst g3
          show 0 ≤ 1 + (0 + (dep z + 0))
          rw [← g1, e2]; omega
      · have := h.up p a h1
        omega
  · refine ⟨fun q => by rw [← q.1, e1] at hs; omega, ?_⟩
    rw [e1]
    rw [free_app]
    refine ⟨Up.free s u 1 (fun p q e => by have := h.up p q e; omega), fun q => ?_, trivial⟩
    rw [← q.1, e2] at hs; omega
mutual
theorem one_fits : ∀ {L : Nat} {u : List BA} {t : PT} (h : GOne L u t), Fits u ∧ Free tOr u 0 ∧ Free tAnd u 0
  | _, _, _, .plain h => plain_fits h
  | _, _, _, .neg h => by
    obtain ⟨h1, h2, h3⟩ := one_fits h
    have hd : dep tNot = 0 := by decide
    exact ⟨Fits.cons hd h1, ⟨fun q => absurd q.1 (by decide), by rw [hd]; exact h2⟩, ⟨fun q => absurd q.1 (by decide), by rw [hd]; exact h3⟩⟩
  | _, _, _, .par h => by
    obtain ⟨h1, h2⟩ := par_fits (or_fits h)
    exact ⟨h1, h2 tOr (by decide), h2 tAnd (by decide)⟩
theorem and_fits : ∀ {L : Nat} {u : List BA} {t : PT} (h : GAnd L u t), Fits u ∧ Free tOr u 0
  | _, _, _, .one h => ⟨(one_fits h).1, (one_fits h).2.1⟩
  | _, _, _, .and h k => by
    obtain ⟨h1, h2⟩ := and_fits h
    obtain ⟨k1, k2, k3⟩ := one_fits k
    have hd : dep tAnd = 0 := by decide
    refine ⟨Fits.app h1 (Fits.cons hd k1), (free_app _ _ _ _).2 ⟨h2, ?_⟩⟩
    rw [h1.zero]
    exact ⟨fun q => absurd q.1 (by decide), by rw [hd]; exact k2⟩
theorem or_fits : ∀ {L : Nat} {u : List BA} {t : PT} (h : GOr L u t), Fits u
  | _, _, _, .and h => (and_fits h).1
  | _, _, _, .or h k => Fits.app (or_fits h) (Fits.cons (by decide) (and_fits k).1)
end
theorem or_inv {L : Nat} {u : List BA} {t : PT} (h : GOr L u t) (hf : Free tOr u 0) : GAnd L u t := by
  cases h with
  | and h => exact h
  | or h k =>
    have := ((free_app _ _ _ _).1 hf).2
    rw [(or_fits h).zero] at this
    exact absurd ⟨rfl, by decide⟩ this.1
theorem and_inv {L : Nat} {u : List BA} {t : PT} (h : GAnd L u t) (hf : Free tAnd u 0) : GOne L u t := by
  cases h with
  | one h => exact h
  | and h k =>
    have := ((free_app _ _ _ _).1 hf).2
    rw [(and_fits h).1.zero] at this
    exact absurd ⟨rfl, by decide⟩ this.1
/-- A tree as the document's. -/
def pk (x : Int × Int × List (Int × Int × List FT)) : Int × Int × List FT := (x.1, x.2.1, x.2.2.map FT.of)
def pf : PT → Int × Int × List (Int × Int × List FT)
  | .nil => (0, 0, [])
  | .node o n a b => (o, n, (if a.isNil = true then [] else [pk (pf a)]) ++ (if b.isNil = true then [] else [pk (pf b)]))
theorem of_un : ∀ l : List (Int × Int × List FT), (l.map FT.of).map FT.un = l
  | [] => rfl
  | x :: l => by
    show FT.un (FT.of x) :: (l.map FT.of).map FT.un = x :: l
    rw [of_un l]; rfl
mutual
theorem one_node : ∀ {L : Nat} {u : List BA} {t : PT} (h : GOne L u t), t.isNil = false
  | _, _, _, .plain (u := u) h => by
    cases u with
    | nil => cases h
    | cons x r =>
      have num : ∀ op t, numS op r = (t, [], false) → t.isNil = false := by
        intro op t q
        cases r with
        | nil => cases q
        | cons y r => rw [← (Prod.mk.inj q).1]; rfl
      rw [plainS_cons] at h
      repeat' split at h
      all_goals first | exact num _ _ h | (rw [← (Prod.mk.inj h).1]; rfl) | cases h
  | _, _, _, .neg h => rfl
  | _, _, _, .par h => or_node h
theorem and_node : ∀ {L : Nat} {u : List BA} {t : PT} (h : GAnd L u t), t.isNil = false
  | _, _, _, .one h => one_node h
  | _, _, _, .and h k => rfl
theorem or_node : ∀ {L : Nat} {u : List BA} {t : PT} (h : GOr L u t), t.isNil = false
  | _, _, _, .and h => and_node h
  | _, _, _, .or h k => rfl
end
/-- A part of a whole row of pieces. -/
def P6 : PT × List BA × Bool → Bool × Int × Int
  | (.node o n _ _, [], false) => (true, o, n)
  | _ => (false, 0, 0)
def plainR (w : List BA) : Bool × Int × Int := P6 (plainS w)
def wordS (k : Nat) : BA := if k = 3 then tPort else if k = 4 then tSrc else if k = 5 then tDst else if k = 6 then tHas else tLong
def findS (x : BA) (n : Int) : Nat → Nat → Bool × Int × Int
  | 0, _ => (false, 0, 0)
  | d + 1, k => if wordS k = x then (true, (k : Int), n) else findS x n d (k + 1)
def G6 (r : (Bool × Int × Int) ⊕ (Int × Int)) : Bool × Int × Int := match r with
  | .inl e => e
  | .inr _ => (false, 0, 0)
theorem word7 {k : Nat} (h1 : 3 ≤ k) (h2 : k ≤ 7) : f61_broughamref35_word (k : Int) = some (wordS k) := by
  rcases (show k = 3 ∨ k = 4 ∨ k = 5 ∨ k = 6 ∨ k = 7 by omega) with rfl | rfl | rfl | rfl | rfl <;> rfl
theorem find_is (x y : BA) (e0 : (parseR y.data.toList).2 = 0) : findS x (parseR y.data.toList).1 5 3 = plainR [x, y] := by
  have hb : ((parseR y.data.toList).2 != 0) = false := by rw [e0]; rfl
  have num : ∀ op, numS op [y] = (.node op (parseR y.data.toList).1 .nil .nil, [], false) := by
    intro op
    show (PT.node op _ _ _, [], _) = _
    rw [hb]
  by_cases h6 : x = tPort
  · subst h6
    unfold plainR
    rw [show plainS [tPort, y] = numS 3 [y] from rfl, num]
    rfl
  by_cases h7 : x = tSrc
  · subst h7
    unfold plainR
    rw [show plainS [tSrc, y] = numS 4 [y] from rfl, num]
    rfl
  by_cases h8 : x = tDst
  · subst h8
    unfold plainR
    rw [show plainS [tDst, y] = numS 5 [y] from rfl, num]
    rfl
  by_cases h9 : x = tHas
  · subst h9
    unfold plainR
    rw [show plainS [tHas, y] = numS 6 [y] from rfl, num]
    rfl
  by_cases h10 : x = tLong
  · subst h10
    unfold plainR
    rw [show plainS [tLong, y] = numS 7 [y] from rfl, num]
    rfl
  have f : findS x (parseR y.data.toList).1 5 3 = (false, 0, 0) := by
    unfold findS findS findS findS findS findS
    rw [if_neg (fun e => h6 e.symm), if_neg (fun e => h7 e.symm), if_neg (fun e => h8 e.symm), if_neg (fun e => h9 e.symm), if_neg (fun e => h10 e.symm)]
  rw [f]
  unfold plainR
  rw [plainS_cons, if_neg h6, if_neg h7, if_neg h8, if_neg h9, if_neg h10]
  by_cases h1 : x = tAll
  · rw [if_pos h1]; rfl
  rw [if_neg h1]
  by_cases h2 : x = tEmpty
  · rw [if_pos h2]; rfl
  rw [if_neg h2]
  by_cases h3 : x = tSyn
  · rw [if_pos h3]; rfl
  rw [if_neg h3]
  by_cases h4 : x = tAck
  · rw [if_pos h4]; rfl
  rw [if_neg h4]
  by_cases h5 : x = tRst
  · rw [if_pos h5]; rfl
  rw [if_neg h5]
  rfl
theorem num_nil (op : Int) : numS op [] = (.nil, [], true) := rfl
theorem plainR_one (x : BA) : plainR [x] = if x = tAll then (true, 1, 0) else if x = tEmpty then (true, 11, 0) else if x = tSyn then (true, 2, 1) else if x = tAck then (true, 2, 2) else if x = tRst then (true, 2, 4) else (false, 0, 0) := by
  unfold plainR
  rw [plainS_cons]
  by_cases h1 : x = tAll
  · rw [if_pos h1, if_pos h1]; rfl
  rw [if_neg h1, if_neg h1]
  by_cases h2 : x = tEmpty
  · rw [if_pos h2, if_pos h2]; rfl
  rw [if_neg h2, if_neg h2]
  by_cases h3 : x = tSyn
  · rw [if_pos h3, if_pos h3]; rfl
  rw [if_neg h3, if_neg h3]
  by_cases h4 : x = tAck
  · rw [if_pos h4, if_pos h4]; rfl
  rw [if_neg h4, if_neg h4]
  by_cases h5 : x = tRst
  · rw [if_pos h5, if_pos h5]; rfl
  rw [if_neg h5, if_neg h5]
  by_cases h6 : x = tPort
  · rw [if_pos h6]; rfl
  rw [if_neg h6]
  by_cases h7 : x = tSrc
  · rw [if_pos h7]; rfl
  rw [if_neg h7]
  by_cases h8 : x = tDst
  · rw [if_pos h8]; rfl
  rw [if_neg h8]
  by_cases h9 : x = tHas
  · rw [if_pos h9]; rfl
  rw [if_neg h9]
  by_cases h10 : x = tLong
  · rw [if_pos h10]; rfl
  rw [if_neg h10]
  rfl
theorem P6_more (t : PT) (z : BA) (r : List BA) (b : Bool) : P6 (t, z :: r, b) = (false, 0, 0) := by cases t <;> rfl
theorem plainR_more (x y z : BA) (r : List BA) : plainR (x :: y :: z :: r) = (false, 0, 0) := by
  have num : ∀ op, P6 (numS op (y :: z :: r)) = (false, 0, 0) := fun op => P6_more _ z r _
  unfold plainR
  rw [plainS_cons]
  by_cases h1 : x = tAll
  · rw [if_pos h1]; first | exact num _ | exact P6_more _ _ _ _
  rw [if_neg h1]
  by_cases h2 : x = tEmpty
  · rw [if_pos h2]; first | exact num _ | exact P6_more _ _ _ _
  rw [if_neg h2]
  by_cases h3 : x = tSyn
  · rw [if_pos h3]; first | exact num _ | exact P6_more _ _ _ _
  rw [if_neg h3]
  by_cases h4 : x = tAck
  · rw [if_pos h4]; first | exact num _ | exact P6_more _ _ _ _
  rw [if_neg h4]
  by_cases h5 : x = tRst
  · rw [if_pos h5]; first | exact num _ | exact P6_more _ _ _ _
  rw [if_neg h5]
  by_cases h6 : x = tPort
  · rw [if_pos h6]; first | exact num _ | exact P6_more _ _ _ _
  rw [if_neg h6]
  by_cases h7 : x = tSrc
  · rw [if_pos h7]; first | exact num _ | exact P6_more _ _ _ _
  rw [if_neg h7]
  by_cases h8 : x = tDst
  · rw [if_pos h8]; first | exact num _ | exact P6_more _ _ _ _
  rw [if_neg h8]
  by_cases h9 : x = tHas
  · rw [if_pos h9]; first | exact num _ | exact P6_more _ _ _ _
  rw [if_neg h9]
  by_cases h10 : x = tLong
  · rw [if_pos h10]; first | exact num _ | exact P6_more _ _ _ _
  rw [if_neg h10]
  exact P6_more _ _ _ _
theorem P6_bad (t : PT) (w : List BA) : P6 (t, w, true) = (false, 0, 0) := by cases t <;> cases w <;> rfl
theorem plainR_bad (x y : BA) (h : (parseR y.data.toList).2 ≠ 0) : plainR [x, y] = (false, 0, 0) := by
  have hb : ((parseR y.data.toList).2 != 0) = true := by simpa using h
  have num : ∀ op, P6 (numS op [y]) = (false, 0, 0) := by
    intro op
    show P6 (PT.node op _ _ _, [], _) = _
    rw [hb]; exact P6_bad _ _
  unfold plainR
  rw [plainS_cons]
  by_cases h1 : x = tAll
  · rw [if_pos h1]; first | exact num _ | exact P6_more _ _ _ _
  rw [if_neg h1]
  by_cases h2 : x = tEmpty
  · rw [if_pos h2]; first | exact num _ | exact P6_more _ _ _ _
  rw [if_neg h2]
  by_cases h3 : x = tSyn
  · rw [if_pos h3]; first | exact num _ | exact P6_more _ _ _ _
  rw [if_neg h3]
  by_cases h4 : x = tAck
  · rw [if_pos h4]; first | exact num _ | exact P6_more _ _ _ _
  rw [if_neg h4]
  by_cases h5 : x = tRst
  · rw [if_pos h5]; first | exact num _ | exact P6_more _ _ _ _
  rw [if_neg h5]
  by_cases h6 : x = tPort
  · rw [if_pos h6]; first | exact num _ | exact P6_more _ _ _ _
  rw [if_neg h6]
  by_cases h7 : x = tSrc
  · rw [if_pos h7]; first | exact num _ | exact P6_more _ _ _ _
  rw [if_neg h7]
  by_cases h8 : x = tDst
  · rw [if_pos h8]; first | exact num _ | exact P6_more _ _ _ _
  rw [if_neg h8]
  by_cases h9 : x = tHas
  · rw [if_pos h9]; first | exact num _ | exact P6_more _ _ _ _
  rw [if_neg h9]
  by_cases h10 : x = tLong
  · rw [if_pos h10]; first | exact num _ | exact P6_more _ _ _ _
  rw [if_neg h10]
  exact P6_more _ _ _ _
abbrev RR := Bool × Int × Int × List (Int × Int × List FT)
def RSays (G : Nat → List BA → PT → Prop) (L : Int) (w : List BA) (r : RR) : Prop := r.1 = true → ∃ (K : Nat) (t : PT), L = (K : Int) ∧ G K w t ∧ r.2 = pf t
theorem RSays.no {G : Nat → List BA → PT → Prop} {L : Int} {w : List BA} {x : Int × Int × List (Int × Int × List FT)} : RSays G L w (false, x) := fun h => by cases h
theorem plainR_true {w : List BA} {o n : Int} (h : plainR w = (true, o, n)) : ∃ t, plainS w = (t, [], false) ∧ pf t = (o, n, []) := by
  unfold plainR at h
  have key : ∀ (q : PT × List BA × Bool), P6 q = (true, o, n) → ∃ a b, q = (.node o n a b, [], false) := by
    intro q hq
    obtain ⟨t, ρ, f⟩ := q
    cases t with
    | nil => cases ρ <;> cases f <;> cases hq
    | node o' n' a b =>
      cases ρ with
      | cons x r => cases f <;> cases hq
      | nil =>
        cases f with
        | true => cases hq
        | false => cases hq; exact ⟨a, b, rfl⟩
  obtain ⟨a, b, e⟩ := key _ h
  refine ⟨_, e, ?_⟩
  have nils : a = .nil ∧ b = .nil := by
    cases w with
    | nil => cases e
    | cons x r =>
      have num : ∀ op, numS op r = (.node o n a b, [], false) → a = .nil ∧ b = .nil := by
        intro op q
        cases r with
        | nil => cases q
        | cons y r =>
          have := (Prod.mk.inj q).1
          cases this
          exact ⟨rfl, rfl⟩
      rw [plainS_cons] at e
      repeat' split at e
      all_goals first | exact num _ e | (cases e; exact ⟨rfl, rfl⟩) | cases e
  rw [nils.1, nils.2]; rfl
theorem pf_not {t : PT} (h : t.isNil = false) : pf (.node 8 0 t .nil) = (8, 0, [pk (pf t)]) := by
  show (8, 0, (if t.isNil = true then [] else [pk (pf t)]) ++ []) = _
  rw [h]; rfl
theorem pf_two {o : Int} {a b : PT} (h : a.isNil = false) (k : b.isNil = false) : pf (.node o 0 a b) = (o, 0, [pk (pf a), pk (pf b)]) := by
  show (o, 0, (if a.isNil = true then [] else [pk (pf a)]) ++ (if b.isNil = true then [] else [pk (pf b)])) = _
  rw [h, k]; rfl
theorem mid_split {x : BA} {r : List BA} (hl : (x :: r).length > 2) (hc : (x :: r).getD ((x :: r).length - 1) ByteArray.empty = tClose) : x :: r = x :: (((x :: r).take ((x :: r).length - 1)).drop 1 ++ [tClose]) := by
  have hne : r ≠ [] := by intro e; subst e; simp at hl
  have e1 : ((x :: r).take ((x :: r).length - 1)).drop 1 = r.dropLast := by
    rw [List.length_cons, Nat.add_sub_cancel]
    cases r with
    | nil => exact absurd rfl hne
    | cons y r =>
      show ((x :: y :: r).take (r.length + 1)).drop 1 = _
      rw [List.take_succ_cons, List.drop_one, List.tail_cons, List.dropLast_eq_take]
      simp
  have e2 : r.getLast hne = tClose := by
    rw [← hc, List.getLast_eq_getElem, List.getD_eq_getElem?_getD, List.length_cons, Nat.add_sub_cancel]
    cases r with
    | nil => exact absurd rfl hne
    | cons y r =>
      rw [List.getElem?_cons]
      simp
  rw [e1, ← e2, List.dropLast_concat_getLast]
theorem wsub {L : Int} (h : -1 ≤ L ∧ L ≤ 1000) : IntKind.wrap .i64 (L - 1) = L - 1 := i64_id (by omega) (by omega)
theorem lastS_at (s : BA) (u v : List BA) (hs : dep s = 0) (hu : depS u = 0) (hv : Free s v 0) : lastS s (u ++ s :: v) (-1) 0 0 = ((u.length : Nat) : Int) := by
  rw [lastS_app, hu, lastS, if_pos ⟨rfl, by omega⟩, hs]
  show lastS s v _ 0 _ = _
  rw [lastS_free s v _ _ _ hv, Nat.zero_add]
theorem closes_up : ∀ (u : List BA) (o : Int), (∀ p q, u = p ++ q → 1 ≤ o + depS p) → o + depS u = 1 → closesS (u ++ [tClose]) o = true
  | [], o, h, he => by
    have e : dep tClose = -1 := by decide
    have he : o = 1 := by simpa [depS] using he
    show (if o + dep tClose = 0 ∧ ([] : List BA) ≠ [] then false else decide (o + dep tClose = 0)) = true
    rw [if_neg (fun q => q.2 rfl), e, he]; rfl
  | x :: u, o, h, he => by
    have h1 := h [x] u rfl
    have e1 : depS [x] = dep x := by simp [depS]
    rw [e1] at h1
    have e2 : depS (x :: u) = dep x + depS u := rfl
    show (if o + dep x = 0 ∧ u ++ [tClose] ≠ [] then false else closesS (u ++ [tClose]) (o + dep x)) = true
    rw [if_neg (fun q => by have := q.1; omega)]
    refine closes_up u _ (fun p q e => ?_) (by omega)
    have h2 := h (x :: p) q (by rw [e]; rfl)
    have e3 : depS (x :: p) = dep x + depS p := rfl
    omega
theorem closes_par {u : List BA} (h : Fits u) : closesS (tOpen :: (u ++ [tClose])) 0 = true := by
  have e : dep tOpen = 1 := by decide
  show (if 0 + dep tOpen = 0 ∧ u ++ [tClose] ≠ [] then false else closesS (u ++ [tClose]) (0 + dep tOpen)) = true
  rw [e, if_neg (fun q => by have := q.1; omega)]
  exact closes_up u _ (fun p q e => by have := h.up p q e; omega) (by rw [h.zero]; rfl)
theorem plainR_pf {w : List BA} {t : PT} (h : plainS w = (t, [], false)) : ∃ o n, plainR w = (true, o, n) ∧ pf t = (o, n, []) := by
  have hn : t.isNil = false := one_node (.plain (L := 0) h)
  cases t with
  | nil => cases hn
  | node o n a b =>
    have e : plainR w = (true, o, n) := by unfold plainR; rw [h]; rfl
    obtain ⟨t', h1, h2⟩ := plainR_true e
    rw [h] at h1
    have : PT.node o n a b = t' := (Prod.mk.inj h1).1
    subst this
    exact ⟨o, n, e, h2⟩
mutual
theorem one_ne : ∀ {L : Nat} {u : List BA} {t : PT} (h : GOne L u t), u ≠ []
  | _, _, _, .plain h => plain_ne h
  | _, _, _, .neg h => by simp
  | _, _, _, .par h => by simp
theorem and_ne : ∀ {L : Nat} {u : List BA} {t : PT} (h : GAnd L u t), u ≠ []
  | _, _, _, .one h => one_ne h
  | _, _, _, .and h k => by simp
theorem or_ne : ∀ {L : Nat} {u : List BA} {t : PT} (h : GOr L u t), u ≠ []
  | _, _, _, .and h => and_ne h
  | _, _, _, .or h k => by simp
end
def leafS (o n : Int) : Bool :=
  if o = 1 ∨ o = 11 then decide (n = 0) else if o = 2 then decide (n = 1 ∨ n = 2 ∨ n = 4) else if o = 3 ∨ o = 4 ∨ o = 5 then decide (0 ≤ n ∧ n ≤ 65535) else if o = 6 then decide (1 ≤ n ∧ n ≤ 255) else decide (0 ≤ n ∧ n ≤ 2147483647)
def Leaf (o : Int) : Prop := o = 1 ∨ o = 2 ∨ o = 3 ∨ o = 4 ∨ o = 5 ∨ o = 6 ∨ o = 7 ∨ o = 11
inductive Tr : PT → Prop
  | leaf {o n : Int} (h : Leaf o) : Tr (.node o n .nil .nil)
  | neg {a : PT} (h : Tr a) : Tr (.node 8 0 a .nil)
  | two {o : Int} {a b : PT} (ho : o = 9 ∨ o = 10) (h : Tr a) (k : Tr b) : Tr (.node o 0 a b)
theorem Tr.node {t : PT} (h : Tr t) : t.isNil = false := by cases h <;> rfl
def dpt : PT → Nat
  | .nil => 0
  | .node _ _ a b => max (dpt a) (dpt b) + 1
def lvs : PT → Bool
  | .nil => true
  | .node o n .nil .nil => leafS o n
  | .node _ _ a b => lvs a && lvs b
theorem bs {α : Type} (x : Option α) : (x.bind fun w => some w) = x := by cases x <;> rfl
theorem right1 (n : Nat) (k l : Int) : f59_filter_right (n + 1) (.node 1 k .nil .nil) l = if (l == 0) = true then some false else if (k == 0) = true then some true else some false := by kernel_rfl
theorem right2 (n : Nat) (k l : Int) : f59_filter_right (n + 3) (.node 2 k .nil .nil) l = if (l == 0) = true then some false else (if (k == 1) = true then some true else if (k == 2) = true then some true else if (k == 4) = true then some true else some false).bind (fun w => some w) := by kernel_rfl
theorem right3 (n : Nat) (k l : Int) : f59_filter_right (n + 3) (.node 3 k .nil .nil) l = if (l == 0) = true then some false else (if (decide (k ≥ 0)) = true then if (decide (k ≤ 65535)) = true then some true else some false else some false).bind (fun w => some w) := by kernel_rfl
theorem right4 (n : Nat) (k l : Int) : f59_filter_right (n + 3) (.node 4 k .nil .nil) l = if (l == 0) = true then some false else (if (decide (k ≥ 0)) = true then if (decide (k ≤ 65535)) = true then some true else some false else some false).bind (fun w => some w) := by kernel_rfl
theorem right5 (n : Nat) (k l : Int) : f59_filter_right (n + 3) (.node 5 k .nil .nil) l = if (l == 0) = true then some false else (if (decide (k ≥ 0)) = true then if (decide (k ≤ 65535)) = true then some true else some false else some false).bind (fun w => some w) := by kernel_rfl
theorem right6 (n : Nat) (k l : Int) : f59_filter_right (n + 3) (.node 6 k .nil .nil) l = if (l == 0) = true then some false else ((if (decide (k ≥ 1)) = true then if (decide (k ≤ 255)) = true then some true else some false else some false).bind (fun w => some w)).bind (fun w => some w) := by kernel_rfl
theorem right7 (n : Nat) (k l : Int) : f59_filter_right (n + 3) (.node 7 k .nil .nil) l = if (l == 0) = true then some false else ((if (decide (k ≥ 0)) = true then if (decide (k < 2147483648)) = true then some true else some false else some false).bind (fun w => some w)).bind (fun w => some w) := by kernel_rfl
theorem right11 (n : Nat) (k l : Int) : f59_filter_right (n + 1) (.node 11 k .nil .nil) l = if (l == 0) = true then some false else if (k == 0) = true then some true else some false := by kernel_rfl
theorem right8 (n : Nat) (a : PT) (l : Int) : f59_filter_right (n + 3) (.node 8 0 a .nil) l = if (l == 0) = true then some false else (((f59_filter_right (n + 2) a (IntKind.wrap .i64 (l - 1))).bind fun r => if r = true then some true else some false).bind (fun w => some w)).bind (fun w => some w) := by kernel_rfl
theorem right9 (n : Nat) (a b : PT) (l : Int) : f59_filter_right (n + 3) (.node 9 0 a b) l = if (l == 0) = true then some false else (((f59_filter_right (n + 2) a (IntKind.wrap .i64 (l - 1))).bind fun r => if r = true then (f59_filter_right (n + 2) b (IntKind.wrap .i64 (l - 1))).bind fun s => some s else some false).bind (fun w => some w)).bind (fun w => some w) := by kernel_rfl
theorem right10 (n : Nat) (a b : PT) (l : Int) : f59_filter_right (n + 3) (.node 10 0 a b) l = if (l == 0) = true then some false else (((f59_filter_right (n + 2) a (IntKind.wrap .i64 (l - 1))).bind fun r => if r = true then (f59_filter_right (n + 2) b (IntKind.wrap .i64 (l - 1))).bind fun s => some s else some false).bind (fun w => some w)).bind (fun w => some w) := by kernel_rfl

theorem leaf_right {o : Int} (h : Leaf o) (n : Nat) (k l : Int) (hl : l ≠ 0) : f59_filter_right (n + 3) (.node o k .nil .nil) l = some (leafS o k) := by
  have e : ¬ (l == 0) = true := by simpa using hl
  rcases h with rfl | rfl | rfl | rfl | rfl | rfl | rfl | rfl
  · rw [right1, if_neg e]; unfold leafS; by_cases c : k = 0 <;> simp [c]
  · rw [right2, if_neg e, bs]; unfold leafS
    by_cases c : k = 1
    · simp [c]
    by_cases c2 : k = 2
    · simp [c2]
    by_cases c3 : k = 4 <;> simp [c, c2, c3]
  · rw [right3, if_neg e, bs]; unfold leafS; by_cases c : 0 ≤ k <;> by_cases d : k ≤ 65535 <;> simp [c, d]
  · rw [right4, if_neg e, bs]; unfold leafS; by_cases c : 0 ≤ k <;> by_cases d : k ≤ 65535 <;> simp [c, d]
  · rw [right5, if_neg e, bs]; unfold leafS; by_cases c : 0 ≤ k <;> by_cases d : k ≤ 65535 <;> simp [c, d]
  · rw [right6, if_neg e, bs, bs]; unfold leafS; by_cases c : 1 ≤ k <;> by_cases d : k ≤ 255 <;> simp [c, d]
  · rw [right7, if_neg e, bs, bs]; unfold leafS
    by_cases c : 0 ≤ k <;> by_cases d : k < 2147483648
    · have d' : k ≤ 2147483647 := by omega
      simp [c, d, d']
    · have d' : ¬ k ≤ 2147483647 := by omega
      simp [c, d, d']
    · simp [c, d]
    · simp [c, d]
  · rw [right11, if_neg e]; unfold leafS; by_cases c : k = 0 <;> simp [c]
theorem right_zero {t : PT} (h : Tr t) (n : Nat) : f59_filter_right (n + 1) t 0 = some false := by
  cases h with
  | leaf h => rcases h with rfl | rfl | rfl | rfl | rfl | rfl | rfl | rfl <;> kernel_rfl
  | neg h => kernel_rfl
  | two ho h k => rcases ho with rfl | rfl <;> kernel_rfl
theorem Tr.pos {t : PT} (h : Tr t) : 1 ≤ dpt t := by cases h <;> simp [dpt]
theorem right_ev : ∀ {t : PT} (h : Tr t) (l : Nat) (hl : l ≤ 1000), Ev (fun n => f59_filter_right n t (l : Int)) (fun r => r = (decide (dpt t ≤ l) && lvs t)) := by
  intro t h
  induction h with
  | @leaf o k h =>
    intro l hl
    cases l with
    | zero => exact ⟨false, by simp [dpt], 1, fun n hn => by
        obtain ⟨m, rfl⟩ : ∃ m, n = m + 1 := ⟨n - 1, by omega⟩
        exact right_zero (.leaf h) m⟩
    | succ l =>
      refine ⟨leafS o k, ?_, 3, fun n hn => ?_⟩
      · simp [dpt, lvs]
      · obtain ⟨m, rfl⟩ : ∃ m, n = m + 3 := ⟨n - 3, by omega⟩
        exact leaf_right h m k _ (by omega)
  | @neg a h ih =>
    intro l hl
    cases l with
    | zero => exact ⟨false, by have := h.pos; simp [dpt], 1, fun n hn => by
        obtain ⟨m, rfl⟩ : ∃ m, n = m + 1 := ⟨n - 1, by omega⟩
        exact right_zero (.neg h) m⟩
    | succ l =>
      obtain ⟨r, hr, N, hN⟩ := ih l (by omega)
      have hN : ∀ n, N ≤ n → f59_filter_right n a (l : Int) = some r := hN
      refine ⟨r, ?_, N + 3, fun n hn => ?_⟩
      · rw [hr]
        have e : lvs (.node 8 0 a .nil) = lvs a := by cases h <;> simp [lvs]
        rw [e]; simp [dpt]
      · obtain ⟨m, rfl⟩ : ∃ m, n = m + 3 := ⟨n - 3, by omega⟩
        show f59_filter_right (m + 3) _ _ = _
        rw [right8, bs, bs, if_neg (by simp; omega), show IntKind.wrap .i64 (((l + 1 : Nat) : Int) - 1) = (l : Int) from by rw [i64_id (by omega) (by omega)]; omega, hN _ (by omega)]
        cases r <;> rfl
  | @two o a b ho h k ih1 ih2 =>
    intro l hl
    cases l with
    | zero => exact ⟨false, by simp [dpt], 1, fun n hn => by
        obtain ⟨m, rfl⟩ : ∃ m, n = m + 1 := ⟨n - 1, by omega⟩
        exact right_zero (.two ho h k) m⟩
    | succ l =>
      obtain ⟨r, hr, N, hN⟩ := ih1 l (by omega)
      obtain ⟨s, hs, M, hM⟩ := ih2 l (by omega)
      have hN : ∀ n, N ≤ n → f59_filter_right n a (l : Int) = some r := hN
      have hM : ∀ n, M ≤ n → f59_filter_right n b (l : Int) = some s := hM
      refine ⟨r && s, ?_, max N M + 3, fun n hn => ?_⟩
      · rw [hr, hs]
        have e : lvs (.node o 0 a b) = (lvs a && lvs b) := by cases h <;> simp [lvs]
        rw [e]
        have e2 : decide (dpt (.node o 0 a b) ≤ l + 1) = (decide (dpt a ≤ l) && decide (dpt b ≤ l)) := by
          rw [← Bool.decide_and]; apply decide_eq_decide.2; simp only [dpt]; omega
        rw [e2]
        cases decide (dpt a ≤ l) <;> cases decide (dpt b ≤ l) <;> cases lvs a <;> cases lvs b <;> rfl
      · obtain ⟨m, rfl⟩ : ∃ m, n = m + 3 := ⟨n - 3, by omega⟩
        show f59_filter_right (m + 3) _ _ = _
        have w : IntKind.wrap .i64 (((l + 1 : Nat) : Int) - 1) = (l : Int) := by rw [i64_id (by omega) (by omega)]; omega
        rcases ho with rfl | rfl
        · rw [right9, bs, bs, if_neg (by simp; omega), w, hN _ (by omega)]
          show (if r = true then (f59_filter_right (m + 2) b (l : Int)).bind fun s => some s else some false) = _
          rw [hM _ (by omega)]
          cases r <;> cases s <;> rfl
        · rw [right10, bs, bs, if_neg (by simp; omega), w, hN _ (by omega)]
          show (if r = true then (f59_filter_right (m + 2) b (l : Int)).bind fun s => some s else some false) = _
          rw [hM _ (by omega)]
          cases r <;> cases s <;> rfl

theorem plain_tr {u : List BA} {t : PT} (h : plainS u = (t, [], false)) : Tr t ∧ dpt t = 1 := by
  cases u with
  | nil => cases h
  | cons x r =>
    have num : ∀ op, Leaf op → numS op r = (t, [], false) → Tr t ∧ dpt t = 1 := by
      intro op ho q
      cases r with
      | nil => cases q
      | cons y r => rw [← (Prod.mk.inj q).1]; exact ⟨.leaf ho, rfl⟩
    rw [plainS_cons] at h
    repeat' split at h
    all_goals first
      | exact num _ (by unfold Leaf; omega) h
      | (rw [← (Prod.mk.inj h).1]; exact ⟨.leaf (by unfold Leaf; omega), rfl⟩)
      | cases h
mutual
theorem one_tr : ∀ {L : Nat} {u : List BA} {t : PT} (h : GOne L u t), Tr t ∧ dpt t ≤ u.length
  | _, _, _, .plain (u := u) h => by
    have := plain_tr h
    refine ⟨this.1, ?_⟩
    rw [this.2]
    cases u with
    | nil => cases h
    | cons x r => simp
  | _, _, _, .neg h => by
    have := one_tr h
    exact ⟨.neg this.1, by simp [dpt]; exact this.2⟩
  | _, _, _, .par h => by
    have := or_tr h
    exact ⟨this.1, by simp; omega⟩
theorem and_tr : ∀ {L : Nat} {u : List BA} {t : PT} (h : GAnd L u t), Tr t ∧ dpt t ≤ u.length
  | _, _, _, .one h => one_tr h
  | _, _, _, .and h k => by
    have a := and_tr h
    have b := one_tr k
    exact ⟨.two (.inl rfl) a.1 b.1, by simp only [dpt, List.length_append, List.length_cons]; omega⟩
theorem or_tr : ∀ {L : Nat} {u : List BA} {t : PT} (h : GOr L u t), Tr t ∧ dpt t ≤ u.length
  | _, _, _, .and h => and_tr h
  | _, _, _, .or h k => by
    have a := or_tr h
    have b := and_tr k
    exact ⟨.two (.inr rfl) a.1 b.1, by simp only [dpt, List.length_append, List.length_cons]; omega⟩
end
abbrev FR := Int × Int × List FT
theorem depL0 (rc : Int → Int → List FR → Option Int) (n : Nat) (o k : Int) : f57_broughamref35_depth_L3 rc (n + 1) 0 0 o k [] = some 0 := by kernel_rfl
theorem depL1 (rc : Int → Int → List FR → Option Int) (n : Nat) (o k : Int) (x : FR) : f57_broughamref35_depth_L3 rc (n + 2) 0 0 o k [x] = (rc x.1 x.2.1 (x.2.2.map FT.un)).bind fun r => if (decide (r > 0)) = true then some r else some 0 := by kernel_rfl
theorem depL2 (rc : Int → Int → List FR → Option Int) (n : Nat) (o k : Int) (x y : FR) : f57_broughamref35_depth_L3 rc (n + 3) 0 0 o k [x, y] = (rc x.1 x.2.1 (x.2.2.map FT.un)).bind fun r => if (decide (r > 0)) = true then (rc y.1 y.2.1 (y.2.2.map FT.un)).bind fun s => if (decide (s > r)) = true then some s else some r
    else (rc y.1 y.2.1 (y.2.2.map FT.un)).bind fun s => if (decide (s > 0)) = true then some s else some 0 := by kernel_rfl
theorem allL0 (rc : Int → Int → List FR → Option Bool) (n : Nat) (o k : Int) : f58_broughamref35_all_L2 rc (n + 1) 0 o k [] = some (.inr (o, k, [])) := by kernel_rfl
theorem allL1 (rc : Int → Int → List FR → Option Bool) (n : Nat) (o k : Int) (x : FR) : f58_broughamref35_all_L2 rc (n + 2) 0 o k [x] = (rc x.1 x.2.1 (x.2.2.map FT.un)).bind fun r => if (!r) = true then some (.inl false) else some (.inr (o, k, [x])) := by kernel_rfl
theorem allL2 (rc : Int → Int → List FR → Option Bool) (n : Nat) (o k : Int) (x y : FR) : f58_broughamref35_all_L2 rc (n + 3) 0 o k [x, y] = (rc x.1 x.2.1 (x.2.2.map FT.un)).bind fun r => if (!r) = true then some (.inl false) else (rc y.1 y.2.1 (y.2.2.map FT.un)).bind fun s => if (!s) = true then some (.inl false) else some (.inr (o, k, [x, y])) := by kernel_rfl
theorem own1 (n : Nat) (k : Int) : f88_broughamref35_own (n + 2) 1 k [] = ((if (k == 0) = true then some true else some false).bind (fun w => some w)).bind (fun w => some w) := by kernel_rfl
theorem own2 (n : Nat) (k : Int) : f88_broughamref35_own (n + 2) 2 k [] = (if (k == 1) = true then some true else if (k == 2) = true then some true else some (k == 4)).bind (fun w => some w) := by kernel_rfl
theorem own3 (n : Nat) (k : Int) : f88_broughamref35_own (n + 2) 3 k [] = (if (decide (k ≥ 0)) = true then some (decide (k ≤ 65535)) else some false).bind (fun w => some w) := by kernel_rfl
theorem own4 (n : Nat) (k : Int) : f88_broughamref35_own (n + 2) 4 k [] = (if (decide (k ≥ 0)) = true then some (decide (k ≤ 65535)) else some false).bind (fun w => some w) := by kernel_rfl
theorem own5 (n : Nat) (k : Int) : f88_broughamref35_own (n + 2) 5 k [] = (if (decide (k ≥ 0)) = true then some (decide (k ≤ 65535)) else some false).bind (fun w => some w) := by kernel_rfl
theorem own6 (n : Nat) (k : Int) : f88_broughamref35_own (n + 2) 6 k [] = ((if (decide (k ≥ 1)) = true then some (decide (k ≤ 255)) else some false).bind (fun w => some w)).bind (fun w => some w) := by kernel_rfl
theorem own7 (n : Nat) (k : Int) : f88_broughamref35_own (n + 2) 7 k [] = ((if (decide (k ≥ 0)) = true then some (decide (k ≤ 2147483647)) else some false).bind (fun w => some w)).bind (fun w => some w) := by kernel_rfl
theorem own11 (n : Nat) (k : Int) : f88_broughamref35_own (n + 2) 11 k [] = ((if (k == 0) = true then some true else some false).bind (fun w => some w)).bind (fun w => some w) := by kernel_rfl
theorem own8 (n : Nat) (x : FR) : f88_broughamref35_own (n + 2) 8 0 [x] = some true := by kernel_rfl
theorem own9 (n : Nat) (x y : FR) : f88_broughamref35_own (n + 2) 9 0 [x, y] = some true := by kernel_rfl
theorem own10 (n : Nat) (x y : FR) : f88_broughamref35_own (n + 2) 10 0 [x, y] = some true := by kernel_rfl
theorem own_leaf {o : Int} (h : Leaf o) (n : Nat) (k : Int) : f88_broughamref35_own (n + 2) o k [] = some (leafS o k) := by
  rcases h with rfl | rfl | rfl | rfl | rfl | rfl | rfl | rfl
  · rw [own1, bs, bs]; unfold leafS; by_cases c : k = 0 <;> simp [c]
  · rw [own2, bs]; unfold leafS
    by_cases c : k = 1
    · simp [c]
    by_cases c2 : k = 2
    · simp [c2]
    by_cases c3 : k = 4 <;> simp [c, c2, c3]
  · rw [own3, bs]; unfold leafS; by_cases c : 0 ≤ k <;> by_cases d : k ≤ 65535 <;> simp [c, d]
  · rw [own4, bs]; unfold leafS; by_cases c : 0 ≤ k <;> by_cases d : k ≤ 65535 <;> simp [c, d]
  · rw [own5, bs]; unfold leafS; by_cases c : 0 ≤ k <;> by_cases d : k ≤ 65535 <;> simp [c, d]
  · rw [own6, bs, bs]; unfold leafS; by_cases c : 1 ≤ k <;> by_cases d : k ≤ 255 <;> simp [c, d]
  · rw [own7, bs, bs]; unfold leafS; by_cases c : 0 ≤ k <;> by_cases d : k ≤ 2147483647 <;> simp [c, d]
  · rw [own11, bs, bs]; unfold leafS; by_cases c : k = 0 <;> simp [c]
theorem leaf_pf (o k : Int) : pf (.node o k .nil .nil) = (o, k, []) := rfl

theorem pk_un (x : Int × Int × List FR) : (pk x).2.2.map FT.un = x.2.2 := of_un x.2.2
theorem depth_ev : ∀ {t : PT} (h : Tr t) (hl : dpt t ≤ 1000000), Ev (fun n => f57_broughamref35_depth n (pf t).1 (pf t).2.1 (pf t).2.2) (fun r => r = ((dpt t : Nat) : Int)) := by
  intro t h
  induction h with
  | @leaf o k h =>
    intro hl
    refine ⟨_, rfl, 2, fun n hn => ?_⟩
    obtain ⟨m, rfl⟩ : ∃ m, n = m + 2 := ⟨n - 2, by omega⟩
    show (f57_broughamref35_depth_L3 (f57_broughamref35_depth (m + 1)) (m + 1) 0 0 o k []).bind _ = _
    rw [depL0]; rfl
  | @neg a h ih =>
    intro hl
    have hd : dpt (.node 8 0 a .nil) = dpt a + 1 := by simp [dpt]
    have hp := h.pos
    obtain ⟨r, hr, N, hN⟩ := ih (by omega)
    subst hr
    have hN : ∀ n, N ≤ n → f57_broughamref35_depth n (pf a).1 (pf a).2.1 (pf a).2.2 = some ((dpt a : Nat) : Int) := hN
    refine ⟨_, rfl, N + 3, fun n hn => ?_⟩
    obtain ⟨m, rfl⟩ : ∃ m, n = m + 3 := ⟨n - 3, by omega⟩
    show f57_broughamref35_depth (m + 3) _ _ _ = _
    rw [pf_not h.node]
    show (f57_broughamref35_depth_L3 (f57_broughamref35_depth (m + 2)) (m + 2) 0 0 8 0 [pk (pf a)]).bind _ = _
    rw [depL1, pk_un]
    show ((f57_broughamref35_depth (m + 2) (pf a).1 (pf a).2.1 (pf a).2.2).bind _).bind _ = _
    rw [hN _ (by omega)]
    show ((if (decide (((dpt a : Nat) : Int) > 0)) = true then some ((dpt a : Nat) : Int) else some 0).bind _) = _
    rw [if_pos (by simp; omega)]
    show some (IntKind.wrap .i64 (((dpt a : Nat) : Int) + 1)) = _
    rw [i64_id (by omega) (by omega), hd]; rfl
  | @two o a b ho h k ih1 ih2 =>
    intro hl
    have hd : dpt (.node o 0 a b) = max (dpt a) (dpt b) + 1 := by simp [dpt]
    have hp := h.pos
    have hq := k.pos
    obtain ⟨r, hr, N, hN⟩ := ih1 (by omega)
    obtain ⟨s, hs, M, hM⟩ := ih2 (by omega)
    subst hr; subst hs
    have hN : ∀ n, N ≤ n → f57_broughamref35_depth n (pf a).1 (pf a).2.1 (pf a).2.2 = some ((dpt a : Nat) : Int) := hN
    have hM : ∀ n, M ≤ n → f57_broughamref35_depth n (pf b).1 (pf b).2.1 (pf b).2.2 = some ((dpt b : Nat) : Int) := hM
    refine ⟨_, rfl, max N M + 4, fun n hn => ?_⟩
    obtain ⟨m, rfl⟩ : ∃ m, n = m + 4 := ⟨n - 4, by omega⟩
    show f57_broughamref35_depth (m + 4) _ _ _ = _
    rw [pf_two h.node k.node]
    show (f57_broughamref35_depth_L3 (f57_broughamref35_depth (m + 3)) (m + 3) 0 0 o 0 [pk (pf a), pk (pf b)]).bind _ = _
    rw [depL2, pk_un, pk_un]
    show ((f57_broughamref35_depth (m + 3) (pf a).1 (pf a).2.1 (pf a).2.2).bind fun r => if (decide (r > 0)) = true then (f57_broughamref35_depth (m + 3) (pf b).1 (pf b).2.1 (pf b).2.2).bind fun s => if (decide (s > r)) = true then some s else some r
      else (f57_broughamref35_depth (m + 3) (pf b).1 (pf b).2.1 (pf b).2.2).bind fun s => if (decide (s > 0)) = true then some s else some 0).bind _ = _
    rw [hN _ (by omega), hM _ (by omega)]
    show (if (decide (((dpt a : Nat) : Int) > 0)) = true then (if (decide (((dpt b : Nat) : Int) > ((dpt a : Nat) : Int))) = true then some ((dpt b : Nat) : Int) else some ((dpt a : Nat) : Int)) else (if (decide (((dpt b : Nat) : Int) > 0)) = true then some ((dpt b : Nat) : Int) else some 0)).bind _ = _
    rw [if_pos (by simp; omega), hd]
    by_cases c : dpt b > dpt a
    · rw [if_pos (by simp; omega)]
      show some (IntKind.wrap .i64 (((dpt b : Nat) : Int) + 1)) = _
      rw [i64_id (by omega) (by omega), show max (dpt a) (dpt b) = dpt b by omega]; rfl
    · rw [if_neg (by simp; omega)]
      show some (IntKind.wrap .i64 (((dpt a : Nat) : Int) + 1)) = _
      rw [i64_id (by omega) (by omega), show max (dpt a) (dpt b) = dpt a by omega]; rfl
theorem all_ev : ∀ {t : PT} (h : Tr t), Ev (fun n => f58_broughamref35_all n (pf t).1 (pf t).2.1 (pf t).2.2) (fun r => r = lvs t) := by
  intro t h
  induction h with
  | @leaf o k h =>
    refine ⟨_, rfl, 3, fun n hn => ?_⟩
    obtain ⟨m, rfl⟩ : ∃ m, n = m + 3 := ⟨n - 3, by omega⟩
    show (f58_broughamref35_all_L2 (f58_broughamref35_all (m + 2)) (m + 2) 0 o k []).bind _ = _
    rw [allL0]
    show (f88_broughamref35_own (m + 2) o k []).bind _ = _
    rw [own_leaf h]
    show some (leafS o k) = some (lvs (.node o k .nil .nil))
    simp [lvs]
  | @neg a h ih =>
    obtain ⟨r, hr, N, hN⟩ := ih
    subst hr
    have hN : ∀ n, N ≤ n → f58_broughamref35_all n (pf a).1 (pf a).2.1 (pf a).2.2 = some (lvs a) := hN
    refine ⟨_, rfl, N + 3, fun n hn => ?_⟩
    obtain ⟨m, rfl⟩ : ∃ m, n = m + 3 := ⟨n - 3, by omega⟩
    have e : lvs (.node 8 0 a .nil) = lvs a := by cases h <;> simp [lvs]
    show f58_broughamref35_all (m + 3) _ _ _ = _
    rw [pf_not h.node, e]
    show (f58_broughamref35_all_L2 (f58_broughamref35_all (m + 2)) (m + 2) 0 8 0 [pk (pf a)]).bind _ = _
    rw [allL1, pk_un]
    show ((f58_broughamref35_all (m + 2) (pf a).1 (pf a).2.1 (pf a).2.2).bind _).bind _ = _
    rw [hN _ (by omega)]
    cases lvs a
    · rfl
    · show (f88_broughamref35_own (m + 2) 8 0 [pk (pf a)]).bind _ = _
      rw [own8]; rfl
  | @two o a b ho h k ih1 ih2 =>
    obtain ⟨r, hr, N, hN⟩ := ih1
    obtain ⟨s, hs, M, hM⟩ := ih2
    subst hr; subst hs
    have hN : ∀ n, N ≤ n → f58_broughamref35_all n (pf a).1 (pf a).2.1 (pf a).2.2 = some (lvs a) := hN
    have hM : ∀ n, M ≤ n → f58_broughamref35_all n (pf b).1 (pf b).2.1 (pf b).2.2 = some (lvs b) := hM
    refine ⟨_, rfl, max N M + 4, fun n hn => ?_⟩
    obtain ⟨m, rfl⟩ : ∃ m, n = m + 4 := ⟨n - 4, by omega⟩
    have e : lvs (.node o 0 a b) = (lvs a && lvs b) := by cases h <;> simp [lvs]
    show f58_broughamref35_all (m + 4) _ _ _ = _
    rw [pf_two h.node k.node, e]
    show (f58_broughamref35_all_L2 (f58_broughamref35_all (m + 3)) (m + 3) 0 o 0 [pk (pf a), pk (pf b)]).bind _ = _
    rw [allL2, pk_un, pk_un]
    show ((f58_broughamref35_all (m + 3) (pf a).1 (pf a).2.1 (pf a).2.2).bind fun r => if (!r) = true then some (Sum.inl false : Bool ⊕ (Int × Int × List FR)) else (f58_broughamref35_all (m + 3) (pf b).1 (pf b).2.1 (pf b).2.2).bind fun s => if (!s) = true then some (Sum.inl false : Bool ⊕ (Int × Int × List FR)) else some (Sum.inr (o, 0, [pk (pf a), pk (pf b)]) : Bool ⊕ (Int × Int × List FR))).bind _ = _
    rw [hN _ (by omega), hM _ (by omega)]
    cases lvs a
    · rfl
    · cases lvs b
      · rfl
      · show (f88_broughamref35_own (m + 3) o 0 [pk (pf a), pk (pf b)]).bind _ = _
        rcases ho with rfl | rfl
        · rw [own9]; rfl
        · rw [own10]; rfl
theorem rightF_ev {t : PT} (h : Tr t) (hl : dpt t ≤ 1000000) : Ev (fun n => f30_broughamref35_Right n (pf t).1 (pf t).2.1 (pf t).2.2) (fun r => r = (decide (dpt t ≤ 16) && lvs t)) := by
  unfold f30_broughamref35_Right
  refine Ev.bind (depth_ev h hl) ?_
  rintro _ rfl
  refine Ev.ite (fun c => ?_) (fun c => ?_)
  · refine Ev.bind (all_ev h) ?_
    rintro _ rfl
    simp only [decide_eq_true_eq] at c
    exact Ev.some (by rw [decide_eq_true (by omega)]; rfl)
  · simp only [decide_eq_true_eq] at c
    exact Ev.some (by rw [decide_eq_false (by omega)]; rfl)
theorem rightT_ev {t : PT} (h : Tr t) : Ev (fun n => f31_filter_Right n t) (fun r => r = (decide (dpt t ≤ 16) && lvs t)) := by
  unfold f31_filter_Right
  refine Ev.bind (right_ev h 16 (by omega)) ?_
  rintro _ rfl
  exact Ev.some rfl

theorem node_of {t : PT} (h : t.isNil = false) : ∃ o k a b, t = .node o k a b := by
  cases t with
  | nil => cases h
  | node o k a b => exact ⟨o, k, a, b, rfl⟩
abbrev SRC := Int → Int → List FR → Int → Int → List FR → Option Bool
theorem alive_ev : Ev (fun n => f23_broughamlaw35_alive n) (fun r => r = true) := Ev.at 60 (fun m => by kernel_rfl) rfl

def Good (t : PT) : Prop := (decide (dpt t ≤ 16) && lvs t) = true
theorem ev_two {α : Type} {f : Nat → Option α} {a b : α} (h : Ev f (fun r => r = a)) (k : Ev f (fun r => r = b)) : a = b := by
  obtain ⟨N, hN⟩ := h.eq
  obtain ⟨M, hM⟩ := k.eq
  have e := hN (max N M) (by omega)
  rw [hM (max N M) (by omega)] at e
  exact (Option.some.inj e).symm
theorem or_whole {L : Nat} {w : List BA} {t : PT} (h : GOr L w t) (hL : L ≤ 1000) (hw : Small w) : Ev (fun n => f54_filter_reader_or n w (L : Int) false) (fun r => r = (t, [], (L : Int), false)) := by
  have := or_reads h hL [] (fun r => r = (t, [], (L : Int), false)) (by simpa using hw) (fun x r e => by cases e) (orL_stop t [] L (fun x r e => by cases e))
  simpa using this
theorem gor_one {L : Nat} {w : List BA} {t u : PT} (h : GOr L w t) (k : GOr L w u) (hL : L ≤ 1000) (hw : Small w) : t = u :=
  (Prod.mk.inj (ev_two (or_whole h hL hw) (or_whole k hL hw))).1
theorem small_piece (s : ByteArray) (hs : s.size ≤ 90000) : Small (pieceB s) := fun x hx => by have := pieceB_sz hx; omega
def PSays (s : ByteArray) (t : PT) : Prop := s.size ≤ 4096 ∧ GOr 64 (pieceB s) t ∧ Good t
theorem parseT_ev (s : ByteArray) : Ev (fun n => f21_filter_Parse n s) (fun r => (r = (.nil, false) ∧ ∀ t, ¬ PSays s t) ∨ ∃ t, PSays s t ∧ r = (t, true)) := by
  unfold f21_filter_Parse
  by_cases c : s.size > 4096
  · exact Ev.pos (by simp only [decide_eq_true_eq]; omega) (Ev.some (.inl ⟨rfl, fun t h => by have := h.1; omega⟩))
  refine Ev.neg (by simp only [decide_eq_true_eq]; omega) (Ev.bind (pieceB_ev s (by omega)) ?_)
  rintro _ rfl
  have hsm := small_piece s (by omega)
  by_cases hg : ∃ t, GOr 64 (pieceB s) t
  · obtain ⟨t, hg⟩ := hg
    refine Ev.bind (or_whole (L := 64) hg (by decide) hsm) ?_
    rintro _ rfl
    refine Ev.neg Bool.false_ne_true (Ev.neg (by simp) (Ev.bind (rightT_ev (or_tr hg).1) ?_))
    rintro _ rfl
    refine Ev.ite (fun d => Ev.some (.inl ⟨rfl, fun u hu => ?_⟩)) (fun d => Ev.some (.inr ⟨t, ⟨by omega, hg, by simpa [Good] using d⟩, rfl⟩))
    obtain ⟨_, h2, h3⟩ := hu
    rw [← gor_one (L := 64) hg h2 (by decide) hsm] at h3
    unfold Good at h3
    rw [h3] at d; cases d
  · refine Ev.bind (or_all 64 (by omega) (pieceB s) hsm) (fun r hr => ?_)
    have no : ∀ t, ¬ PSays s t := fun t h => hg ⟨t, h.2.1⟩
    refine Ev.ite (fun d => Ev.some (.inl ⟨rfl, no⟩)) (fun d => Ev.ite (fun e => Ev.some (.inl ⟨rfl, no⟩)) (fun e => ?_))
    exfalso
    obtain ⟨_, u, _, q1, q2⟩ := hr (by simpa using d)
    have : r.2.1 = [] := by
      simp only [decide_eq_true_eq] at e
      exact List.eq_nil_of_length_eq_zero (by omega)
    rw [this, List.append_nil] at q1
    exact hg ⟨_, q1 ▸ q2⟩
instance instWord (w : List UInt8) : Decidable (Word w) := inferInstanceAs (Decidable (w ≠ [] ∧ (32 : UInt8) ∉ w ∧ (35 : UInt8) ∉ w))
def PcIs (T : List UInt8) (p : List (List UInt8)) : Prop := (∀ r, pc [] (T ++ 32 :: r) = p ++ pc [] r) ∧ pc [] T = p
theorem PcIs.word {w : List UInt8} (h : Word w) : PcIs w [w] := by
  have e : emit w = [w] := by unfold emit; rw [if_neg h.1]
  refine ⟨fun r => ?_, ?_⟩
  · rw [pc_word w [] _ h.2.1 h.2.2, List.nil_append, pc, if_neg (by decide), if_pos rfl, e]
  · have := pc_word w [] [] h.2.1 h.2.2
    rw [List.append_nil, List.nil_append] at this
    rw [this]; exact e
theorem PcIs.app {T U : List UInt8} {p q : List (List UInt8)} (h : PcIs T p) (k : PcIs U q) : PcIs (T ++ 32 :: U) (p ++ q) :=
  ⟨fun r => by rw [List.append_assoc, List.cons_append, h.1, k.1, List.append_assoc], by rw [h.1, k.2]⟩
def headT (o : Int) : BA := if o = 3 then ⟨#[112, 111, 114, 116, 32]⟩ else if o = 4 then ⟨#[115, 114, 99, 32]⟩ else if o = 5 then ⟨#[100, 115, 116, 32]⟩ else if o = 6 then ⟨#[104, 97, 115, 32]⟩ else ⟨#[108, 111, 110, 103, 32]⟩
def flagT (k : Int) : BA := if k = 1 then tSyn else if k = 2 then tAck else tRst
def leafT (o k : Int) : BA := if o = 1 then tAll else if o = 11 then tEmpty else if o = 2 then flagT k else headT o ++ textB k
def wordT (o : Int) : BA := if o = 3 then tPort else if o = 4 then tSrc else if o = 5 then tDst else if o = 6 then tHas else tLong
def leafK (o k : Int) : List BA := if o = 1 then [tAll] else if o = 11 then [tEmpty] else if o = 2 then [flagT k] else [wordT o, textB k]
def tx : PT → BA
  | .nil => ⟨#[]⟩
  | .node o k a b => if o = 8 then (⟨#[40, 32, 110, 111, 116, 32]⟩ ++ tx a) ++ ⟨#[32, 41]⟩
    else if o = 9 then (((⟨#[40, 32]⟩ ++ tx a) ++ ⟨#[32, 97, 110, 100, 32]⟩) ++ tx b) ++ ⟨#[32, 41]⟩
    else if o = 10 then (((⟨#[40, 32]⟩ ++ tx a) ++ ⟨#[32, 111, 114, 32]⟩) ++ tx b) ++ ⟨#[32, 41]⟩
    else leafT o k
def tk : PT → List BA
  | .nil => []
  | .node o k a b => if o = 8 then tOpen :: ((tNot :: tk a) ++ [tClose])
    else if o = 9 then tOpen :: ((tk a ++ tAnd :: tk b) ++ [tClose])
    else if o = 10 then tOpen :: ((tk a ++ tOr :: tk b) ++ [tClose])
    else leafK o k
theorem lvs_neg {a : PT} (h : Tr a) : lvs (.node 8 0 a .nil) = lvs a := by cases h <;> simp [lvs]
theorem lvs_two {o : Int} {a b : PT} (h : Tr a) : lvs (.node o 0 a b) = (lvs a && lvs b) := by cases h <;> simp [lvs]
theorem dpt_neg (a : PT) : dpt (.node 8 0 a .nil) = dpt a + 1 := by simp [dpt]
theorem dpt_two (o : Int) (a b : PT) : dpt (.node o 0 a b) = max (dpt a) (dpt b) + 1 := rfl
theorem textB_word (k : Int) (h : 0 ≤ k ∧ k ≤ 2147483647) : Word (D (textB k)) ∧ (textB k).size ≤ 20 := by
  have e : D (textB k) = textL k.toNat := rfl
  obtain ⟨⟨h1, h2, h3⟩, _⟩ := textL_canon k.toNat (by omega)
  refine ⟨⟨by rw [e]; exact h2, fun q => ?_, fun q => ?_⟩, ?_⟩
  · have := h1 32 (by rw [← e]; exact q); revert this; decide
  · have := h1 35 (by rw [← e]; exact q); revert this; decide
  · rw [sz_D, e]; exact textF_len 20 _
theorem leafS_num {o k : Int} (h : Leaf o) (hs : leafS o k = true) (h1 : o ≠ 1) (h2 : o ≠ 11) (h3 : o ≠ 2) : 0 ≤ k ∧ k ≤ 2147483647 := by
  unfold leafS at hs
  rw [if_neg (by omega), if_neg h3] at hs
  split at hs
  · have := of_decide_eq_true hs; omega
  · split at hs <;> (have := of_decide_eq_true hs; omega)
theorem leaf_pc {o k : Int} (h : Leaf o) (hs : leafS o k = true) : PcIs (D (leafT o k)) ((leafK o k).map D) ∧ 1 ≤ (leafT o k).size ∧ (leafT o k).size ≤ 30 := by
  unfold leafT leafK
  by_cases h1 : o = 1
  · rw [if_pos h1, if_pos h1]; exact ⟨PcIs.word (by decide), by decide, by decide⟩
  rw [if_neg h1, if_neg h1]
  by_cases h2 : o = 11
  · rw [if_pos h2, if_pos h2]; exact ⟨PcIs.word (by decide), by decide, by decide⟩
  rw [if_neg h2, if_neg h2]
  by_cases h3 : o = 2
  · rw [if_pos h3, if_pos h3]
    unfold flagT
    repeat' split
    all_goals exact ⟨PcIs.word (by decide), by decide, by decide⟩
  rw [if_neg h3, if_neg h3]
  obtain ⟨w1, w2⟩ := textB_word k (leafS_num h hs h1 h2 h3)
  have key : ∀ (u v : BA), Word (D v) → D u = D v ++ [32] → u.size ≤ 5 → PcIs (D (u ++ textB k)) ([v, textB k].map D) ∧ 1 ≤ (u ++ textB k).size ∧ (u ++ textB k).size ≤ 30 := by
    intro u v hv hu hz
    refine ⟨?_, ?_, ?_⟩
    · rw [D_app, hu, List.append_assoc]
      exact (PcIs.word hv).app (PcIs.word w1)
    · rw [sz_app, sz_D u, hu]; simp; omega
    · rw [sz_app]; omega
  unfold headT wordT
  repeat' split
  all_goals exact key _ _ (by decide) (by decide) (by decide)
theorem tx_is : ∀ {t : PT} (h : Tr t) (hl : lvs t = true), PcIs (D (tx t)) ((tk t).map D) ∧ 1 ≤ (tx t).size ∧ (tx t).size + 20 ≤ 60 * 2 ^ dpt t := by
  intro t h
  induction h with
  | @leaf o k h =>
    intro hl
    have e : lvs (.node o k .nil .nil) = leafS o k := by simp [lvs]
    rw [e] at hl
    obtain ⟨h1, h2, h3⟩ := leaf_pc h hl
    have e1 : tx (.node o k .nil .nil) = leafT o k := by unfold Leaf at h; rw [tx, if_neg (by omega), if_neg (by omega), if_neg (by omega)]
    have e2 : tk (.node o k .nil .nil) = leafK o k := by unfold Leaf at h; rw [tk, if_neg (by omega), if_neg (by omega), if_neg (by omega)]
    rw [e1, e2]
    refine ⟨h1, h2, ?_⟩
    rw [show dpt (.node o k .nil .nil) = 1 from rfl]; omega
  | @neg a h ih =>
    intro hl
    rw [lvs_neg h] at hl
    obtain ⟨i1, i2, i3⟩ := ih hl
    have e1 : tx (.node 8 0 a .nil) = (⟨#[40, 32, 110, 111, 116, 32]⟩ ++ tx a) ++ ⟨#[32, 41]⟩ := by rw [tx, if_pos rfl]
    have e2 : tk (.node 8 0 a .nil) = tOpen :: ((tNot :: tk a) ++ [tClose]) := by rw [tk, if_pos rfl]
    rw [e1, e2]
    refine ⟨?_, ?_, ?_⟩
    · have q := (PcIs.word (w := D tOpen) (by decide)).app ((PcIs.word (w := D tNot) (by decide)).app (i1.app (PcIs.word (w := D tClose) (by decide))))
      rw [D_app, D_app]
      have a1 : (tOpen :: ((tNot :: tk a) ++ [tClose])).map D = [D tOpen] ++ ([D tNot] ++ ((tk a).map D ++ [D tClose])) := by simp
      rw [a1]
      have a2 : D (⟨#[40, 32, 110, 111, 116, 32]⟩ : BA) ++ D (tx a) ++ D (⟨#[32, 41]⟩ : BA) = D tOpen ++ 32 :: (D tNot ++ 32 :: (D (tx a) ++ 32 :: D tClose)) := by simp [D]
      rw [a2]; exact q
    · rw [sz_app, sz_app]; omega
    · rw [sz_app, sz_app, dpt_neg, Nat.pow_succ, show (⟨#[40, 32, 110, 111, 116, 32]⟩ : BA).size = 6 from rfl, show (⟨#[32, 41]⟩ : BA).size = 2 from rfl]; omega
  | @two o a b ho h k ih1 ih2 =>
    intro hl
    rw [lvs_two h, Bool.and_eq_true] at hl
    obtain ⟨i1, i2, i3⟩ := ih1 hl.1
    obtain ⟨j1, j2, j3⟩ := ih2 hl.2
    have p1 : 2 ^ dpt a ≤ 2 ^ max (dpt a) (dpt b) := Nat.pow_le_pow_right (by omega) (by omega)
    have p2 : 2 ^ dpt b ≤ 2 ^ max (dpt a) (dpt b) := Nat.pow_le_pow_right (by omega) (by omega)
    rcases ho with rfl | rfl
    · have e1 : tx (.node 9 0 a b) = (((⟨#[40, 32]⟩ ++ tx a) ++ ⟨#[32, 97, 110, 100, 32]⟩) ++ tx b) ++ ⟨#[32, 41]⟩ := by rw [tx, if_neg (by omega), if_pos rfl]
      have e2 : tk (.node 9 0 a b) = tOpen :: ((tk a ++ tAnd :: tk b) ++ [tClose]) := by rw [tk, if_neg (by omega), if_pos rfl]
      rw [e1, e2]
      refine ⟨?_, ?_, ?_⟩
      · have q := (PcIs.word (w := D tOpen) (by decide)).app (i1.app ((PcIs.word (w := D tAnd) (by decide)).app (j1.app (PcIs.word (w := D tClose) (by decide)))))
        rw [D_app, D_app, D_app, D_app]
        have a1 : (tOpen :: ((tk a ++ tAnd :: tk b) ++ [tClose])).map D = [D tOpen] ++ ((tk a).map D ++ ([D tAnd] ++ ((tk b).map D ++ [D tClose]))) := by simp
        rw [a1]
        have a2 : D (⟨#[40, 32]⟩ : BA) ++ D (tx a) ++ D (⟨#[32, 97, 110, 100, 32]⟩ : BA) ++ D (tx b) ++ D (⟨#[32, 41]⟩ : BA) = D tOpen ++ 32 :: (D (tx a) ++ 32 :: (D tAnd ++ 32 :: (D (tx b) ++ 32 :: D tClose))) := by simp [D]
        rw [a2]; exact q
      · rw [sz_app, sz_app, sz_app, sz_app]; omega
      · rw [sz_app, sz_app, sz_app, sz_app, dpt_two, Nat.pow_succ, show (⟨#[40, 32]⟩ : BA).size = 2 from rfl, show (⟨#[32, 97, 110, 100, 32]⟩ : BA).size = 5 from rfl, show (⟨#[32, 41]⟩ : BA).size = 2 from rfl]; omega
    · have e1 : tx (.node 10 0 a b) = (((⟨#[40, 32]⟩ ++ tx a) ++ ⟨#[32, 111, 114, 32]⟩) ++ tx b) ++ ⟨#[32, 41]⟩ := by rw [tx, if_neg (by omega), if_neg (by omega), if_pos rfl]
      have e2 : tk (.node 10 0 a b) = tOpen :: ((tk a ++ tOr :: tk b) ++ [tClose]) := by rw [tk, if_neg (by omega), if_neg (by omega), if_pos rfl]
      rw [e1, e2]
      refine ⟨?_, ?_, ?_⟩
      · have q := (PcIs.word (w := D tOpen) (by decide)).app (i1.app ((PcIs.word (w := D tOr) (by decide)).app (j1.app (PcIs.word (w := D tClose) (by decide)))))
        rw [D_app, D_app, D_app, D_app]
        have a1 : (tOpen :: ((tk a ++ tOr :: tk b) ++ [tClose])).map D = [D tOpen] ++ ((tk a).map D ++ ([D tOr] ++ ((tk b).map D ++ [D tClose]))) := by simp
        rw [a1]
        have a2 : D (⟨#[40, 32]⟩ : BA) ++ D (tx a) ++ D (⟨#[32, 111, 114, 32]⟩ : BA) ++ D (tx b) ++ D (⟨#[32, 41]⟩ : BA) = D tOpen ++ 32 :: (D (tx a) ++ 32 :: (D tOr ++ 32 :: (D (tx b) ++ 32 :: D tClose))) := by simp [D]
        rw [a2]; exact q
      · rw [sz_app, sz_app, sz_app, sz_app]; omega
      · rw [sz_app, sz_app, sz_app, sz_app, dpt_two, Nat.pow_succ, show (⟨#[40, 32]⟩ : BA).size = 2 from rfl, show (⟨#[32, 111, 114, 32]⟩ : BA).size = 4 from rfl, show (⟨#[32, 41]⟩ : BA).size = 2 from rfl]; omega
theorem tx_pieces {t : PT} (h : Tr t) (hl : lvs t = true) : pieceB (tx t) = tk t := by
  unfold pieceB
  rw [(tx_is h hl).1.2, List.map_map]
  conv => rhs; rw [← List.map_id (tk t)]
  exact List.map_congr_left fun a _ => unw_D a
theorem leaf_plain {o k : Int} (h : Leaf o) (hs : leafS o k = true) : plainS (leafK o k) = (.node o k .nil .nil, [], false) := by
  have num : ∀ (w : BA) (op : Int), 0 ≤ k ∧ k ≤ 2147483647 → numS op [textB k] = (.node op k .nil .nil, [], false) := by
    intro w op hk
    have e : (textB k).data.toList = textL k.toNat := rfl
    show (PT.node op (parseR (textB k).data.toList).1 .nil .nil, ([] : List BA), (parseR (textB k).data.toList).2 != 0) = _
    rw [e, parseR_text (by omega)]
    have : ((k.toNat : Nat) : Int) = k := by omega
    rw [this]; rfl
  have hn := leafS_num h hs
  unfold leafS at hs
  rcases h with rfl | rfl | rfl | rfl | rfl | rfl | rfl | rfl
  · have : k = 0 := by simpa using hs
    subst this; rfl
  · have : k = 1 ∨ k = 2 ∨ k = 4 := by simpa using hs
    rcases this with rfl | rfl | rfl <;> rfl
  all_goals first
    | exact num tPort _ (hn (by decide) (by decide) (by decide))
    | (have : k = 0 := by simpa using hs
       subst this; rfl)
theorem tk_reads : ∀ {t : PT} (h : Tr t) (hl : lvs t = true) (L : Nat) (hL : 2 * dpt t ≤ L), GOne L (tk t) t := by
  intro t h
  induction h with
  | @leaf o k h =>
    intro hl L hL
    have e : lvs (.node o k .nil .nil) = leafS o k := by simp [lvs]
    rw [e] at hl
    have e2 : tk (.node o k .nil .nil) = leafK o k := by unfold Leaf at h; rw [tk, if_neg (by omega), if_neg (by omega), if_neg (by omega)]
    rw [show dpt (.node o k .nil .nil) = 1 from rfl] at hL
    obtain ⟨L, rfl⟩ : ∃ M, L = M + 1 := ⟨L - 1, by omega⟩
    rw [e2]; exact .plain (leaf_plain h hl)
  | @neg a h ih =>
    intro hl L hL
    rw [lvs_neg h] at hl
    rw [dpt_neg] at hL
    obtain ⟨L, rfl⟩ : ∃ M, L = M + 2 := ⟨L - 2, by omega⟩
    have e2 : tk (.node 8 0 a .nil) = tOpen :: ((tNot :: tk a) ++ [tClose]) := by rw [tk, if_pos rfl]
    rw [e2]
    exact .par (.and (.one (.neg (ih hl L (by omega)))))
  | @two o a b ho h k ih1 ih2 =>
    intro hl L hL
    rw [lvs_two h, Bool.and_eq_true] at hl
    rw [dpt_two] at hL
    obtain ⟨L, rfl⟩ : ∃ M, L = M + 1 := ⟨L - 1, by omega⟩
    rcases ho with rfl | rfl
    · have e2 : tk (.node 9 0 a b) = tOpen :: ((tk a ++ tAnd :: tk b) ++ [tClose]) := by rw [tk, if_neg (by omega), if_pos rfl]
      rw [e2]
      exact .par (.and (.and (.one (ih1 hl.1 L (by omega))) (ih2 hl.2 L (by omega))))
    · have e2 : tk (.node 10 0 a b) = tOpen :: ((tk a ++ tOr :: tk b) ++ [tClose]) := by rw [tk, if_neg (by omega), if_neg (by omega), if_pos rfl]
      rw [e2]
      exact .par (.or (.and (.one (ih1 hl.1 L (by omega)))) (.one (ih2 hl.2 L (by omega))))
/-- What is written is read as it was. -/
theorem parse_tx {t : PT} (h : Tr t) (hg : Good t) : Ev (fun n => f21_filter_Parse n (tx t)) (fun r => r = if (tx t).size ≤ 4096 then (t, true) else (.nil, false)) := by
  have hg0 := hg
  unfold Good at hg0
  simp only [Bool.and_eq_true, decide_eq_true_eq] at hg0
  have gor : GOr 64 (pieceB (tx t)) t := by rw [tx_pieces h hg0.2]; exact .and (.one (tk_reads h hg0.2 64 (by omega)))
  refine (parseT_ev (tx t)).mono fun r hr => ?_
  by_cases c : (tx t).size ≤ 4096
  · rw [if_pos c]
    rcases hr with ⟨_, hr⟩ | ⟨u, hu, rfl⟩
    · exact absurd ⟨c, gor, hg⟩ (hr t)
    · rw [gor_one (L := 64) gor hu.2.1 (by decide) (small_piece _ (by omega))]
  · rw [if_neg c]
    rcases hr with ⟨hr, _⟩ | ⟨u, hu, rfl⟩
    · exact hr
    · exact absurd hu.1 c

theorem textK1 (n : Nat) (k : Int) (a b : PT) : f56_filter_text (n + 1) (.node 1 k a b) = some tAll := by kernel_rfl
theorem textK11 (n : Nat) (k : Int) (a b : PT) : f56_filter_text (n + 1) (.node 11 k a b) = some tEmpty := by kernel_rfl
theorem textK2 (n : Nat) (k : Int) (a b : PT) : f56_filter_text (n + 1) (.node 2 k a b) = (f87_filter_flag k).bind fun r => some r := by kernel_rfl
theorem textK3 (n : Nat) (k : Int) (a b : PT) : f56_filter_text (n + 1) (.node 3 k a b) = (f52_num_Text k).bind fun r => if (⟨#[112, 111, 114, 116, 32]⟩ : BA).size + r.size ≤ 9223372036854775807 then some (⟨#[112, 111, 114, 116, 32]⟩ ++ r) else none := by kernel_rfl
theorem textK4 (n : Nat) (k : Int) (a b : PT) : f56_filter_text (n + 1) (.node 4 k a b) = (f52_num_Text k).bind fun r => if (⟨#[115, 114, 99, 32]⟩ : BA).size + r.size ≤ 9223372036854775807 then some (⟨#[115, 114, 99, 32]⟩ ++ r) else none := by kernel_rfl
theorem textK5 (n : Nat) (k : Int) (a b : PT) : f56_filter_text (n + 1) (.node 5 k a b) = (f52_num_Text k).bind fun r => if (⟨#[100, 115, 116, 32]⟩ : BA).size + r.size ≤ 9223372036854775807 then some (⟨#[100, 115, 116, 32]⟩ ++ r) else none := by kernel_rfl
theorem textK6 (n : Nat) (k : Int) (a b : PT) : f56_filter_text (n + 1) (.node 6 k a b) = (f52_num_Text k).bind fun r => if (⟨#[104, 97, 115, 32]⟩ : BA).size + r.size ≤ 9223372036854775807 then some (⟨#[104, 97, 115, 32]⟩ ++ r) else none := by kernel_rfl
theorem textK7 (n : Nat) (k : Int) (a b : PT) : f56_filter_text (n + 1) (.node 7 k a b) = (f52_num_Text k).bind fun r => if (⟨#[108, 111, 110, 103, 32]⟩ : BA).size + r.size ≤ 9223372036854775807 then some (⟨#[108, 111, 110, 103, 32]⟩ ++ r) else none := by kernel_rfl
theorem textK8 (n : Nat) (k : Int) (a b : PT) : f56_filter_text (n + 1) (.node 8 k a b) = (f56_filter_text n a).bind fun r => if (⟨#[40, 32, 110, 111, 116, 32]⟩ : BA).size + r.size ≤ 9223372036854775807 then
    if ((⟨#[40, 32, 110, 111, 116, 32]⟩ : BA) ++ r).size + (⟨#[32, 41]⟩ : BA).size ≤ 9223372036854775807 then some ((⟨#[40, 32, 110, 111, 116, 32]⟩ ++ r) ++ ⟨#[32, 41]⟩) else none else none := by kernel_rfl
theorem textK9 (n : Nat) (k : Int) (a b : PT) : f56_filter_text (n + 1) (.node 9 k a b) = (f56_filter_text n a).bind fun r => if (⟨#[40, 32]⟩ : BA).size + r.size ≤ 9223372036854775807 then
    if ((⟨#[40, 32]⟩ : BA) ++ r).size + (⟨#[32, 97, 110, 100, 32]⟩ : BA).size ≤ 9223372036854775807 then (f56_filter_text n b).bind fun s =>
    if (((⟨#[40, 32]⟩ : BA) ++ r) ++ (⟨#[32, 97, 110, 100, 32]⟩ : BA)).size + s.size ≤ 9223372036854775807 then
    if ((((⟨#[40, 32]⟩ : BA) ++ r) ++ (⟨#[32, 97, 110, 100, 32]⟩ : BA)) ++ s).size + (⟨#[32, 41]⟩ : BA).size ≤ 9223372036854775807 then some ((((⟨#[40, 32]⟩ ++ r) ++ ⟨#[32, 97, 110, 100, 32]⟩) ++ s) ++ ⟨#[32, 41]⟩) else none else none else none else none := by kernel_rfl
theorem textK10 (n : Nat) (k : Int) (a b : PT) : f56_filter_text (n + 1) (.node 10 k a b) = (f56_filter_text n a).bind fun r => if (⟨#[40, 32]⟩ : BA).size + r.size ≤ 9223372036854775807 then
    if ((⟨#[40, 32]⟩ : BA) ++ r).size + (⟨#[32, 111, 114, 32]⟩ : BA).size ≤ 9223372036854775807 then (f56_filter_text n b).bind fun s =>
    if (((⟨#[40, 32]⟩ : BA) ++ r) ++ (⟨#[32, 111, 114, 32]⟩ : BA)).size + s.size ≤ 9223372036854775807 then
    if ((((⟨#[40, 32]⟩ : BA) ++ r) ++ (⟨#[32, 111, 114, 32]⟩ : BA)) ++ s).size + (⟨#[32, 41]⟩ : BA).size ≤ 9223372036854775807 then some ((((⟨#[40, 32]⟩ ++ r) ++ ⟨#[32, 111, 114, 32]⟩) ++ s) ++ ⟨#[32, 41]⟩) else none else none else none else none := by kernel_rfl
theorem flag_is (k : Int) : f87_filter_flag k = some (flagT k) := by
  unfold f87_filter_flag flagT
  by_cases h1 : k = 1
  · simp [h1]
  by_cases h2 : k = 2 <;> simp [h1, h2]
theorem num_is {k : Int} (h : 0 ≤ k ∧ k ≤ 2147483647) : f52_num_Text k = some (textB k) := by
  unfold f52_num_Text; rw [if_pos (by omega)]
theorem pow17 {d : Nat} (h : d ≤ 17) : 2 ^ d ≤ 131072 := Nat.le_trans (Nat.pow_le_pow_right (by omega) h) (by decide)
theorem textT_ev : ∀ {t : PT} (h : Tr t) (hl : lvs t = true) (hd : dpt t ≤ 17), Ev (fun n => f56_filter_text n t) (fun r => r = tx t) := by
  intro t h
  induction h with
  | @leaf o k h =>
    intro hl hd
    have e : lvs (.node o k .nil .nil) = leafS o k := by simp [lvs]
    rw [e] at hl
    have e1 : tx (.node o k .nil .nil) = leafT o k := by unfold Leaf at h; rw [tx, if_neg (by omega), if_neg (by omega), if_neg (by omega)]
    have hn := leafS_num h hl
    have hz := (leaf_pc h hl).2.2
    rw [e1]
    refine ⟨_, rfl, 1, fun n hn' => ?_⟩
    obtain ⟨m, rfl⟩ : ∃ m, n = m + 1 := ⟨n - 1, by omega⟩
    show f56_filter_text (m + 1) _ = _
    have big : ∀ (u v : BA), (u ++ v).size ≤ 30 → u.size + v.size ≤ 9223372036854775807 := fun u v h => by rw [sz_app] at h; omega
    rcases h with rfl | rfl | rfl | rfl | rfl | rfl | rfl | rfl
    · rw [textK1]; rfl
    · rw [textK2, flag_is]; rfl
    · have hk := hn (by decide) (by decide) (by decide)
      rw [textK3, num_is hk]; exact if_pos (big _ _ hz)
    · have hk := hn (by decide) (by decide) (by decide)
      rw [textK4, num_is hk]; exact if_pos (big _ _ hz)
    · have hk := hn (by decide) (by decide) (by decide)
      rw [textK5, num_is hk]; exact if_pos (big _ _ hz)
    · have hk := hn (by decide) (by decide) (by decide)
      rw [textK6, num_is hk]; exact if_pos (big _ _ hz)
    · have hk := hn (by decide) (by decide) (by decide)
      rw [textK7, num_is hk]; exact if_pos (big _ _ hz)
    · rw [textK11]; rfl
  | @neg a h ih =>
    intro hl hd
    have hz := (tx_is (.neg h) hl).2.2
    rw [lvs_neg h] at hl
    have hd0 := pow17 hd
    rw [dpt_neg] at hd
    obtain ⟨_, rfl, N, hN⟩ := ih hl (by omega)
    have hN : ∀ n, N ≤ n → f56_filter_text n a = some (tx a) := hN
    have e1 : tx (.node 8 0 a .nil) = (⟨#[40, 32, 110, 111, 116, 32]⟩ ++ tx a) ++ ⟨#[32, 41]⟩ := by rw [tx, if_pos rfl]
    rw [e1] at hz ⊢
    rw [sz_app] at hz
    refine ⟨_, rfl, N + 1, fun n hn => ?_⟩
    obtain ⟨m, rfl⟩ : ∃ m, n = m + 1 := ⟨n - 1, by omega⟩
    show f56_filter_text (m + 1) _ = _
    rw [textK8, hN m (by omega), Option.bind_some, if_pos (by rw [sz_app] at hz; omega), if_pos (by omega)]
  | @two o a b ho h k ih1 ih2 =>
    intro hl hd
    have hz := (tx_is (.two ho h k) hl).2.2
    rw [lvs_two h, Bool.and_eq_true] at hl
    have hd0 := pow17 hd
    rw [dpt_two] at hd
    obtain ⟨_, rfl, N, hN⟩ := ih1 hl.1 (by omega)
    obtain ⟨_, rfl, M, hM⟩ := ih2 hl.2 (by omega)
    have hN : ∀ n, N ≤ n → f56_filter_text n a = some (tx a) := hN
    have hM : ∀ n, M ≤ n → f56_filter_text n b = some (tx b) := hM
    refine ⟨_, rfl, max N M + 1, fun n hn => ?_⟩
    obtain ⟨m, rfl⟩ : ∃ m, n = m + 1 := ⟨n - 1, by omega⟩
    show f56_filter_text (m + 1) _ = _
    rcases ho with rfl | rfl
    · have e1 : tx (.node 9 0 a b) = (((⟨#[40, 32]⟩ ++ tx a) ++ ⟨#[32, 97, 110, 100, 32]⟩) ++ tx b) ++ ⟨#[32, 41]⟩ := by rw [tx, if_neg (by omega), if_pos rfl]
      rw [e1] at hz ⊢
      have z1 := hz; rw [sz_app] at z1
      have z2 := z1; rw [sz_app] at z2
      have z3 := z2; rw [sz_app] at z3
      have z4 := z3; rw [sz_app] at z4
      rw [textK9, hN m (by omega), Option.bind_some, if_pos (by omega), if_pos (by omega), hM m (by omega), Option.bind_some, if_pos (by omega), if_pos (by omega)]
    · have e1 : tx (.node 10 0 a b) = (((⟨#[40, 32]⟩ ++ tx a) ++ ⟨#[32, 111, 114, 32]⟩) ++ tx b) ++ ⟨#[32, 41]⟩ := by rw [tx, if_neg (by omega), if_neg (by omega), if_pos rfl]
      rw [e1] at hz ⊢
      have z1 := hz; rw [sz_app] at z1
      have z2 := z1; rw [sz_app] at z2
      have z3 := z2; rw [sz_app] at z3
      have z4 := z3; rw [sz_app] at z4
      rw [textK10, hN m (by omega), Option.bind_some, if_pos (by omega), if_pos (by omega), hM m (by omega), Option.bind_some, if_pos (by omega), if_pos (by omega)]
theorem rg0 (n : Nat) (o k : Int) (a b : PT) : f59_filter_right (n + 1) (.node o k a b) 0 = some false := by kernel_rfl
theorem rgn (n : Nat) (l : Int) : f59_filter_right (n + 1) .nil l = some false := by kernel_rfl
theorem rg1 (n : Nat) (k : Int) (a b : PT) (l : Int) : f59_filter_right (n + 3) (.node 1 k a b) l = if (l == 0) = true then some false else if (k == 0) = true then (if a.isNil = true then some b.isNil else some false) else some false := by kernel_rfl
theorem rg11 (n : Nat) (k : Int) (a b : PT) (l : Int) : f59_filter_right (n + 3) (.node 11 k a b) l = if (l == 0) = true then some false else if (k == 0) = true then (if a.isNil = true then some b.isNil else some false) else some false := by kernel_rfl
theorem rg2 (n : Nat) (k : Int) (a b : PT) (l : Int) : f59_filter_right (n + 3) (.node 2 k a b) l = if (l == 0) = true then some false else (if (k == 1) = true then (if a.isNil = true then some b.isNil else some false) else if (k == 2) = true then (if a.isNil = true then some b.isNil else some false) else if (k == 4) = true then (if a.isNil = true then some b.isNil else some false) else some false).bind fun w => some w := by kernel_rfl
theorem rg3 (n : Nat) (k : Int) (a b : PT) (l : Int) : f59_filter_right (n + 3) (.node 3 k a b) l = if (l == 0) = true then some false else (if (decide (k ≥ 0)) = true then (if (decide (k ≤ 65535)) = true then (if a.isNil = true then some b.isNil else some false) else some false) else some false).bind fun w => some w := by kernel_rfl
theorem rg4 (n : Nat) (k : Int) (a b : PT) (l : Int) : f59_filter_right (n + 3) (.node 4 k a b) l = if (l == 0) = true then some false else (if (decide (k ≥ 0)) = true then (if (decide (k ≤ 65535)) = true then (if a.isNil = true then some b.isNil else some false) else some false) else some false).bind fun w => some w := by kernel_rfl
theorem rg5 (n : Nat) (k : Int) (a b : PT) (l : Int) : f59_filter_right (n + 3) (.node 5 k a b) l = if (l == 0) = true then some false else (if (decide (k ≥ 0)) = true then (if (decide (k ≤ 65535)) = true then (if a.isNil = true then some b.isNil else some false) else some false) else some false).bind fun w => some w := by kernel_rfl
theorem rg6 (n : Nat) (k : Int) (a b : PT) (l : Int) : f59_filter_right (n + 3) (.node 6 k a b) l = if (l == 0) = true then some false else ((if (decide (k ≥ 1)) = true then (if (decide (k ≤ 255)) = true then (if a.isNil = true then some b.isNil else some false) else some false) else some false).bind fun w => some w).bind fun w => some w := by kernel_rfl
theorem rg7 (n : Nat) (k : Int) (a b : PT) (l : Int) : f59_filter_right (n + 3) (.node 7 k a b) l = if (l == 0) = true then some false else ((if (decide (k ≥ 0)) = true then (if (decide (k < 2147483648)) = true then (if a.isNil = true then some b.isNil else some false) else some false) else some false).bind fun w => some w).bind fun w => some w := by kernel_rfl
theorem rg8 (n : Nat) (k : Int) (a b : PT) (l : Int) : f59_filter_right (n + 3) (.node 8 k a b) l = if (l == 0) = true then some false else ((if (k == 0) = true then (f59_filter_right (n + 2) a (IntKind.wrap .i64 (l - 1))).bind fun r => if r = true then some b.isNil else some false else some false).bind fun w => some w).bind fun w => some w := by kernel_rfl
theorem rg9 (n : Nat) (k : Int) (a b : PT) (l : Int) : f59_filter_right (n + 3) (.node 9 k a b) l = if (l == 0) = true then some false else ((if (k == 0) = true then (f59_filter_right (n + 2) a (IntKind.wrap .i64 (l - 1))).bind fun r => if r = true then (f59_filter_right (n + 2) b (IntKind.wrap .i64 (l - 1))).bind fun s => some s else some false else some false).bind fun w => some w).bind fun w => some w := by kernel_rfl
theorem rg10 (n : Nat) (k : Int) (a b : PT) (l : Int) : f59_filter_right (n + 3) (.node 10 k a b) l = if (l == 0) = true then some false else ((if (k == 0) = true then (f59_filter_right (n + 2) a (IntKind.wrap .i64 (l - 1))).bind fun r => if r = true then (f59_filter_right (n + 2) b (IntKind.wrap .i64 (l - 1))).bind fun s => some s else some false else some false).bind fun w => some w).bind fun w => some w := by kernel_rfl
theorem rgo (n : Nat) (o k : Int) (a b : PT) (l : Int) (h : ¬ Leaf o) (h8 : o ≠ 8) (h9 : o ≠ 9) (h10 : o ≠ 10) : f59_filter_right (n + 3) (.node o k a b) l = if (l == 0) = true then some false else some false := by
  unfold Leaf at h
  simp only [not_or] at h
  obtain ⟨h1, h2, h3, h4, h5, h6, h7, h11⟩ := h
  simp [f59_filter_right, f59_filter_right_L7, f59_filter_right_L13, PT.isNil, PT.op, h1, h2, h3, h4, h5, h6, h7, h8, h9, h10, h11]
theorem some_of {f : Nat → Option Bool} {X : Option Bool} {P : Bool → Prop} (h : ∀ n, f (n + 3) = X) (k : ∃ r, X = some r ∧ P r) : Ev f P := by
  obtain ⟨r, h1, h2⟩ := k
  exact ⟨r, h2, 3, fun n hn => by
    obtain ⟨m, rfl⟩ : ∃ m, n = m + 3 := ⟨n - 3, by omega⟩
    exact (h m).trans h1⟩
theorem nil_of {t : PT} (h : t.isNil = true) : t = .nil := by
  cases t with
  | nil => rfl
  | node => cases h
theorem leafG_ev {o : Int} (h : Leaf o) (k : Int) (a b : PT) (l : Int) : Ev (fun n => f59_filter_right n (.node o k a b) l) (fun r => r = true → Tr (.node o k a b)) := by
  have fin : a.isNil = true → b.isNil = true → Tr (.node o k a b) := fun x y => by rw [nil_of x, nil_of y]; exact .leaf h
  rcases h with rfl | rfl | rfl | rfl | rfl | rfl | rfl | rfl
  · exact some_of (fun n => rg1 n k a b l) (by repeat' split
                                               all_goals exact ⟨_, rfl, by simp_all⟩)
  · exact some_of (fun n => rg2 n k a b l) (by rw [bs]; repeat' split
                                               all_goals exact ⟨_, rfl, by simp_all⟩)
  · exact some_of (fun n => rg3 n k a b l) (by rw [bs]; repeat' split
                                               all_goals exact ⟨_, rfl, by simp_all⟩)
  · exact some_of (fun n => rg4 n k a b l) (by rw [bs]; repeat' split
                                               all_goals exact ⟨_, rfl, by simp_all⟩)
  · exact some_of (fun n => rg5 n k a b l) (by rw [bs]; repeat' split
                                               all_goals exact ⟨_, rfl, by simp_all⟩)
  · exact some_of (fun n => rg6 n k a b l) (by rw [bs, bs]; repeat' split
                                               all_goals exact ⟨_, rfl, by simp_all⟩)
  · exact some_of (fun n => rg7 n k a b l) (by rw [bs, bs]; repeat' split
                                               all_goals exact ⟨_, rfl, by simp_all⟩)
  · exact some_of (fun n => rg11 n k a b l) (by repeat' split
                                                all_goals exact ⟨_, rfl, by simp_all⟩)
theorem rightG_ev : ∀ (t : PT) (l : Nat) (hl : l ≤ 1000), Ev (fun n => f59_filter_right n t (l : Int)) (fun r => r = true → Tr t)
  | .nil, l, hl => ⟨false, (fun h => by cases h), 1, fun n hn => by
      obtain ⟨m, rfl⟩ : ∃ m, n = m + 1 := ⟨n - 1, by omega⟩
      exact rgn m _⟩
  | .node o k a b, 0, hl => ⟨false, (fun h => by cases h), 1, fun n hn => by
      obtain ⟨m, rfl⟩ : ∃ m, n = m + 1 := ⟨n - 1, by omega⟩
      exact rg0 m o k a b⟩
  | .node o k a b, l + 1, hl => by
    by_cases hL : Leaf o
    · exact leafG_ev hL k a b _
    have w : IntKind.wrap .i64 (((l + 1 : Nat) : Int) - 1) = (l : Int) := by rw [i64_id (by omega) (by omega)]; omega
    have e0 : ¬ (((l + 1 : Nat) : Int) == 0) = true := by simp; omega
    obtain ⟨r, hr, N, hN⟩ := rightG_ev a l (by omega)
    obtain ⟨s, hs, M, hM⟩ := rightG_ev b l (by omega)
    have hN : ∀ n, N ≤ n → f59_filter_right n a (l : Int) = some r := hN
    have hM : ∀ n, M ≤ n → f59_filter_right n b (l : Int) = some s := hM
    have fin : ∀ {X : Option Bool} {P : Bool → Prop}, (∀ m, max N M ≤ m → f59_filter_right (m + 3) (.node o k a b) ((l + 1 : Nat) : Int) = X) → (∃ r, X = some r ∧ P r) → Ev (fun n => f59_filter_right n (.node o k a b) ((l + 1 : Nat) : Int)) P := by
      intro X P h k
      obtain ⟨r, h1, h2⟩ := k
      exact ⟨r, h2, max N M + 3, fun n hn => by
        obtain ⟨m, rfl⟩ : ∃ m, n = m + 3 := ⟨n - 3, by omega⟩
        exact (h m (by omega)).trans h1⟩
    by_cases h8 : o = 8
    · subst h8
      refine fin (X := if (k == 0) = true then (if r = true then some b.isNil else some false) else some false) (fun m hm => ?_) ?_
      · rw [rg8, bs, bs, if_neg e0, w, hN _ (by omega)]; rfl
      · by_cases hk : k = 0
        · subst hk
          rw [if_pos (by decide)]
          cases r
          · exact ⟨false, rfl, fun h => by cases h⟩
          · exact ⟨b.isNil, rfl, fun h => by rw [nil_of h]; exact .neg (hr rfl)⟩
        · rw [if_neg (by simpa using hk)]; exact ⟨false, rfl, fun h => by cases h⟩
    by_cases h9 : o = 9
    · subst h9
      refine fin (X := if (k == 0) = true then (if r = true then some s else some false) else some false) (fun m hm => ?_) ?_
      · rw [rg9, bs, bs, if_neg e0, w, hN _ (by omega)]
        show (if (k == 0) = true then (if r = true then (f59_filter_right (m + 2) b (l : Int)).bind fun s => some s else some false) else some false) = _
        rw [hM _ (by omega)]; rfl
      · by_cases hk : k = 0
        · subst hk
          rw [if_pos (by decide)]
          cases r
          · exact ⟨false, rfl, fun h => by cases h⟩
          · exact ⟨s, rfl, fun h => .two (.inl rfl) (hr rfl) (hs h)⟩
        · rw [if_neg (by simpa using hk)]; exact ⟨false, rfl, fun h => by cases h⟩
    by_cases h10 : o = 10
    · subst h10
      refine fin (X := if (k == 0) = true then (if r = true then some s else some false) else some false) (fun m hm => ?_) ?_
      · rw [rg10, bs, bs, if_neg e0, w, hN _ (by omega)]
        show (if (k == 0) = true then (if r = true then (f59_filter_right (m + 2) b (l : Int)).bind fun s => some s else some false) else some false) = _
        rw [hM _ (by omega)]; rfl
      · by_cases hk : k = 0
        · subst hk
          rw [if_pos (by decide)]
          cases r
          · exact ⟨false, rfl, fun h => by cases h⟩
          · exact ⟨s, rfl, fun h => .two (.inr rfl) (hr rfl) (hs h)⟩
        · rw [if_neg (by simpa using hk)]; exact ⟨false, rfl, fun h => by cases h⟩
    exact fin (X := some false) (fun m hm => by rw [rgo m o k a b _ hL h8 h9 h10, if_neg e0]) ⟨false, rfl, fun h => by cases h⟩
/-- Right says which may be. -/
theorem rightX_ev (t : PT) : Ev (fun n => f31_filter_Right n t) (fun r => r = true ↔ Tr t ∧ Good t) := by
  by_cases h : Tr t
  · refine (rightT_ev h).mono fun r hr => ?_
    rw [hr]; exact ⟨fun q => ⟨h, q⟩, fun q => q.2⟩
  · unfold f31_filter_Right
    refine Ev.bind (rightG_ev t 16 (by omega)) fun r hr => Ev.some ⟨fun q => absurd (hr q) h, fun q => absurd q.1 h⟩
/-- Text of any tree. -/
theorem text_says (t : PT) : Ev (fun n => f27_filter_Text n t) (fun r => (Tr t ∧ Good t ∧ r = tx t) ∨ (¬ (Tr t ∧ Good t) ∧ r = ⟨#[]⟩)) := by
  unfold f27_filter_Text
  refine Ev.bind (rightX_ev t) fun r hr => ?_
  by_cases c : r = true
  · obtain ⟨h, g⟩ := hr.1 c
    have g0 := g
    unfold Good at g0
    simp only [Bool.and_eq_true, decide_eq_true_eq] at g0
    refine Ev.neg (by simp [c]) (Ev.bind (textT_ev h g0.2 (by omega)) ?_)
    rintro _ rfl
    exact Ev.some (.inl ⟨h, g, rfl⟩)
  · exact Ev.pos (by simpa using c) (Ev.some (.inr ⟨fun q => c (hr.2 q), rfl⟩))

theorem _root_.Zed.Ev.sh {α : Type} {f : Nat → Option α} {Q : α → Prop} (h : Ev f Q) : Ev (fun n => f (n + 1)) Q := by
  obtain ⟨r, h1, N, h2⟩ := h
  exact ⟨r, h1, N, fun n hn => h2 (n + 1) (by omega)⟩
/-- A node of what stands below it. -/
def nd (o n : Int) : List PT → PT
  | [] => .node o n .nil .nil
  | [a] => .node o n a .nil
  | a :: b :: _ => .node o n a b
mutual
def md : FT → PT
  | .mk o n l => nd o n (mds l)
def mds : List FT → List PT
  | [] => []
  | t :: r => md t :: mds r
end
mutual
/-- At most two below each. -/
def tw : FT → Prop
  | .mk o n l => l.length ≤ 2 ∧ tws l
def tws : List FT → Prop
  | [] => True
  | t :: r => tw t ∧ tws r
end
theorem un_1 (x : FR) (l : List FR) : (x :: l).getD 0 (0, 0, []) = x := rfl
theorem un_2 (x y : FR) (l : List FR) : (x :: y :: l).getD 1 (0, 0, []) = y := rfl
abbrev MadeE (x : FT) : Prop := Ev (fun n => f28_broughamlaw35_Made n x.un.1 x.un.2.1 (x.un.2.2.map FT.un)) (fun r => r = md x)
theorem made_step (o k : Int) (l : List FT) (h : ∀ x ∈ l, MadeE x) : MadeE (.mk o k l) := by
  show Ev (fun n => f28_broughamlaw35_Made n o k (l.map FT.un)) (fun r => r = nd o k (mds l))
  apply Ev.succ
  simp only [f28_broughamlaw35_Made]
  match l, h with
  | [], h =>
    refine Ev.neg (by simp) (Ev.neg (by simp) (Ev.some rfl))
  | [a], h =>
    refine Ev.pos (by simp) (Ev.guard (by simp) (Ev.bind (h a (by simp)) ?_))
    rintro _ rfl
    exact Ev.neg (by simp) (Ev.some rfl)
  | a :: b :: r, h =>
    refine Ev.pos (by simp; omega) (Ev.guard (by simp; omega) (Ev.bind (h a (by simp)) ?_))
    rintro _ rfl
    refine Ev.pos (by simp; omega) (Ev.guard (by simp; omega) (Ev.bind (h b (by simp)) ?_))
    rintro _ rfl
    exact Ev.some rfl
mutual
theorem made_ev : ∀ x : FT, MadeE x
  | .mk o k l => made_step o k l (mades_ev l)
theorem mades_ev : ∀ l : List FT, ∀ x ∈ l, MadeE x
  | [], x, h => by cases h
  | t :: r, x, h => by
    rcases List.mem_cons.1 h with e | h
    · rw [e]; exact made_ev t
    · exact mades_ev r x h
end
/-- How many parts: never none; of a small tree, more than may be if there are more than two below one. -/
abbrev PartsE (x : FT) : Prop := Ev (fun n => f37_broughamlaw35_parts n x.un.1 x.un.2.1 (x.un.2.2.map FT.un) 200) (fun r => dpt (md x) ≤ 17 → 1 ≤ r ∧ r + 1 ≤ 202 * 2 ^ dpt (md x) ∧ (r ≤ 200 → tw x))
theorem parts_step (o k : Int) (l : List FT) (h : ∀ x ∈ l, PartsE x) : PartsE (.mk o k l) := by
  show Ev (fun n => f37_broughamlaw35_parts n o k (l.map FT.un) 200) (fun r => dpt (nd o k (mds l)) ≤ 17 → 1 ≤ r ∧ r + 1 ≤ 202 * 2 ^ dpt (nd o k (mds l)) ∧ (r ≤ 200 → tw (.mk o k l)))
  have two : ∀ d : Nat, 202 * 2 ^ (d + 1) = 2 * (202 * 2 ^ d) := fun d => by rw [Nat.pow_succ]; omega
  have big : ∀ d : Nat, d ≤ 17 → 202 * 2 ^ d ≤ 26476544 := fun d h => by have := pow17 h; omega
  apply Ev.succ
  simp only [f37_broughamlaw35_parts]
  match l, h with
  | [], h =>
    refine Ev.neg (by simp) (Ev.bind (P := fun r => r = 1) ?_ ?_)
    · apply Ev.succ
      simp only [f37_broughamlaw35_parts_L5]
      exact Ev.neg (by simp) (Ev.some rfl)
    · rintro _ rfl
      refine Ev.some fun hd => ⟨by omega, ?_, fun _ => ⟨by simp, trivial⟩⟩
      show (1 : Int) + 1 ≤ 202 * 2 ^ 1
      decide
  | [a], h =>
    have ha := h a (by simp)
    have hd1 : dpt (nd o k (mds [a])) = dpt (md a) + 1 := by show max (dpt (md a)) 0 + 1 = _; omega
    refine Ev.neg (by simp) (Ev.bind (P := fun r => dpt (nd o k (mds [a])) ≤ 17 → 1 ≤ r ∧ r + 1 ≤ 202 * 2 ^ dpt (nd o k (mds [a])) ∧ (r ≤ 200 → tw (.mk o k [a]))) ?_ (fun r hr => Ev.some hr))
    apply Ev.succ
    simp only [f37_broughamlaw35_parts_L5]
    refine Ev.pos (by simp) (Ev.pos (by decide) (Ev.guard (by simp) (Ev.bind (Ev.sh ha) fun r hr => ?_)))
    apply Ev.succ
    simp only [f37_broughamlaw35_parts_L5]
    rw [show IntKind.wrap .i64 (0 + 1) = 1 from by decide]
    refine Ev.neg (by simp) (Ev.some fun hd => ?_)
    rw [hd1] at hd ⊢
    obtain ⟨r1, r2, r3⟩ := hr (by omega)
    have b1 := big _ (show dpt (md a) ≤ 17 by omega)
    have c1 : ((202 * 2 ^ dpt (md a) : Nat) : Int) = 202 * 2 ^ dpt (md a) := by push_cast; rfl
    rw [i64_id (by omega) (by omega)]
    refine ⟨by omega, ?_, fun q => ⟨by simp, r3 (by omega), trivial⟩⟩
    have c2 : ((202 * 2 ^ (dpt (md a) + 1) : Nat) : Int) = 202 * 2 ^ (dpt (md a) + 1) := by push_cast; rfl
    rw [← c2, two]; push_cast; omega
  | [a, b], h =>
    have ha := h a (by simp)
    have hb := h b (by simp)
    have hd1 : dpt (nd o k (mds [a, b])) = max (dpt (md a)) (dpt (md b)) + 1 := rfl
    refine Ev.neg (by simp) (Ev.bind (P := fun r => dpt (nd o k (mds [a, b])) ≤ 17 → 1 ≤ r ∧ r + 1 ≤ 202 * 2 ^ dpt (nd o k (mds [a, b])) ∧ (r ≤ 200 → tw (.mk o k [a, b]))) ?_ (fun r hr => Ev.some hr))
    apply Ev.succ
    simp only [f37_broughamlaw35_parts_L5]
    refine Ev.pos (by simp) (Ev.pos (by decide) (Ev.guard (by simp) (Ev.bind (Ev.sh ha) fun r hr => ?_)))
    have mono : ∀ d e : Nat, d ≤ e → 202 * 2 ^ d ≤ 202 * 2 ^ e := fun d e h => Nat.mul_le_mul_left _ (Nat.pow_le_pow_right (by omega) h)
    have c2 : ((202 * 2 ^ (max (dpt (md a)) (dpt (md b)) + 1) : Nat) : Int) = 202 * 2 ^ (max (dpt (md a)) (dpt (md b)) + 1) := by push_cast; rfl
    have ca : ((202 * 2 ^ dpt (md a) : Nat) : Int) = 202 * 2 ^ dpt (md a) := by push_cast; rfl
    have cb : ((202 * 2 ^ dpt (md b) : Nat) : Int) = 202 * 2 ^ dpt (md b) := by push_cast; rfl
    have m1 := mono (dpt (md a)) (max (dpt (md a)) (dpt (md b))) (by omega)
    have m2 := mono (dpt (md b)) (max (dpt (md a)) (dpt (md b))) (by omega)
    have t1 := two (max (dpt (md a)) (dpt (md b)))
    apply Ev.succ
    simp only [f37_broughamlaw35_parts_L5]
    rw [show IntKind.wrap .i64 (0 + 1) = 1 from by decide]
    refine Ev.pos (by simp) (Ev.ite (fun c => Ev.guard (by simp) (Ev.bind (Ev.sh (Ev.sh hb)) fun s hs => ?_)) (fun c => Ev.some fun hd => ?_))
    · apply Ev.succ
      simp only [f37_broughamlaw35_parts_L5]
      rw [show IntKind.wrap .i64 (1 + 1) = 2 from by decide]
      refine Ev.neg (by simp) (Ev.some fun hd => ?_)
      simp only [decide_eq_true_eq] at c
      rw [hd1] at hd ⊢
      obtain ⟨r1, r2, r3⟩ := hr (by omega)
      obtain ⟨s1, s2, s3⟩ := hs (by omega)
      have b1 := big _ (show dpt (md a) ≤ 17 by omega)
      have b2 := big _ (show dpt (md b) ≤ 17 by omega)
      rw [i64_id (e := 1 + r) (by omega) (by omega)] at c ⊢
      rw [i64_id (by omega) (by omega)]
      refine ⟨by omega, ?_, fun q => ⟨by simp, r3 (by omega), s3 (by omega), trivial⟩⟩
      rw [← c2]; omega
    · simp only [decide_eq_true_eq] at c
      rw [hd1] at hd ⊢
      obtain ⟨r1, r2, r3⟩ := hr (by omega)
      have b1 := big _ (show dpt (md a) ≤ 17 by omega)
      rw [i64_id (e := 1 + r) (by omega) (by omega)] at c ⊢
      refine ⟨by omega, ?_, fun q => by omega⟩
      rw [← c2]; omega
  | a :: b :: c :: r, h =>
    refine Ev.pos (by simp; omega) (Ev.some fun hd => ⟨by decide, ?_, fun q => absurd q (by decide)⟩)
    have h1 : 1 ≤ dpt (nd o k (mds (a :: b :: c :: r))) := by show 1 ≤ max _ _ + 1; omega
    have h2 : 2 ^ 1 ≤ 2 ^ dpt (nd o k (mds (a :: b :: c :: r))) := Nat.pow_le_pow_right (by omega) h1
    have c1 : ((202 * 2 ^ dpt (nd o k (mds (a :: b :: c :: r))) : Nat) : Int) = 202 * 2 ^ dpt (nd o k (mds (a :: b :: c :: r))) := by push_cast; rfl
    rw [← c1, show IntKind.wrap .i64 (200 + 1) = 201 by decide]
    omega
mutual
theorem parts_ev : ∀ x : FT, PartsE x
  | .mk o k l => parts_step o k l (partss_ev l)
theorem partss_ev : ∀ l : List FT, ∀ x ∈ l, PartsE x
  | [], x, h => by cases h
  | t :: r, x, h => by
    rcases List.mem_cons.1 h with e | h
    · rw [e]; exact parts_ev t
    · exact partss_ev r x h
end
theorem great_ev (x : FT) : Ev (fun n => f26_broughamlaw35_great n x.un.1 x.un.2.1 (x.un.2.2.map FT.un)) (fun r => r = false → dpt (md x) ≤ 17 → tw x) := by
  unfold f26_broughamlaw35_great
  refine Ev.bind (parts_ev x) fun r hr => Ev.some fun q hd => (hr hd).2.2 ?_
  simpa using q
theorem md_node : ∀ x : FT, (md x).isNil = false
  | .mk o n l => by
    show (nd o n (mds l)).isNil = false
    match mds l with
    | [] => rfl
    | [a] => rfl
    | a :: b :: r => rfl
theorem un_of_map (l : List FT) : (l.map FT.un).map FT.of = l := by
  rw [List.map_map]
  conv => rhs; rw [← List.map_id l]
  exact List.map_congr_left fun a _ => by cases a; rfl
mutual
theorem pf_md : ∀ x : FT, tw x → pf (md x) = (x.un.1, x.un.2.1, x.un.2.2.map FT.un)
  | .mk o n [], h => rfl
  | .mk o n [a], h => by
    have ha := pf_md a h.2.1
    have hn := md_node a
    show pf (.node o n (md a) .nil) = (o, n, [a.un])
    show (o, n, (if (md a).isNil = true then [] else [pk (pf (md a))]) ++ []) = _
    rw [hn, ha]
    show (o, n, [(a.un.1, a.un.2.1, (a.un.2.2.map FT.un).map FT.of)]) = _
    rw [un_of_map]
  | .mk o n [a, b], h => by
    have ha := pf_md a h.2.1
    have hb := pf_md b h.2.2.1
    have hn := md_node a
    have hm := md_node b
    show (o, n, (if (md a).isNil = true then [] else [pk (pf (md a))]) ++ (if (md b).isNil = true then [] else [pk (pf (md b))])) = (o, n, [a.un, b.un])
    rw [hn, ha, hm, hb]
    show (o, n, [(a.un.1, a.un.2.1, (a.un.2.2.map FT.un).map FT.of), (b.un.1, b.un.2.1, (b.un.2.2.map FT.un).map FT.of)]) = _
    rw [un_of_map, un_of_map]
  | .mk o n (a :: b :: c :: r), h => by
    have := h.1
    simp at this
end
theorem tx_ne {t : PT} (h : Tr t) (hg : Good t) : (!((tx t).toList == (⟨#[]⟩ : ByteArray).toList)) = true := by
  unfold Good at hg
  simp only [Bool.and_eq_true] at hg
  have := (tx_is h hg.2).2.1
  have e : ¬ ((tx t).toList == (⟨#[]⟩ : ByteArray).toList) = true := fun q => by
    rw [str_dec, decide_eq_true_eq] at q
    rw [sz_D, show D (tx t) = [] from q] at this
    simp at this
  simpa using e
abbrev Opts := List (Int × List Int)
/-- The first option of a kind. -/
theorem first_loop (kind : Int) (l : Opts) (z : Int) (hl : l.length ≤ 1000000) : ∀ (d i : Nat) (hi : i + d = l.length),
    Ev (fun n => f89_seg_First_L2 n kind l ((l.length : Nat) : Int) (i : Int) z) (fun w => match w with | .inl e => e.1 = true ∧ (l.drop i).any (fun p => p.1 == kind) = true | .inr _ => (l.drop i).any (fun p => p.1 == kind) = false)
  | 0, i, hi => by
    apply Ev.succ
    simp only [f89_seg_First_L2]
    refine Ev.neg (by simp only [decide_eq_true_eq]; omega) (Ev.some ?_)
    show (l.drop i).any _ = false
    rw [List.drop_eq_nil_of_le (by omega)]; rfl
  | d + 1, i, hi => by
    have e1 : l.drop i = l.getD i (0, []) :: l.drop (i + 1) := drop_cons (by omega) _
    apply Ev.succ
    simp only [f89_seg_First_L2]
    rw [Int.toNat_natCast, i64_id (e := (i : Int) + 1) (by omega) (by omega)]
    refine Ev.pos (by simp only [decide_eq_true_eq]; omega) (Ev.guard (by omega) (Ev.ite (fun c => Ev.some ?_) (fun c => (first_loop kind l z hl d (i + 1) (by omega)).mono fun w hw => ?_)))
    · refine ⟨rfl, ?_⟩
      rw [e1, List.any_cons, c]; rfl
    · rw [e1, List.any_cons, (by simpa using c : ((l.getD i (0, [])).1 == kind) = false), Bool.false_or]; exact hw
theorem first_ev (s0 s1 s2 s3 s4 : Int) (s5 : Opts) (s6 : List Int) (kind : Int) (hl : s5.length ≤ 1000000) : Ev (fun n => f89_seg_First n s0 s1 s2 s3 s4 s5 s6 kind) (fun r => r.1 = s5.any (fun p => p.1 == kind)) := by
  unfold f89_seg_First
  refine Ev.bind (first_loop kind s5 0 hl s5.length 0 (by omega)) fun w hw => ?_
  rw [List.drop_zero] at hw
  cases w with
  | inl e => exact Ev.some (hw.1.trans hw.2.symm)
  | inr e => exact Ev.some hw.symm
structure Sg where
  a : Int
  b : Int
  c : Int
  d : Int
  e : Int
  o : Opts
  x : List Int
def leafM (s : Sg) (o k : Int) : Bool :=
  if o = 1 then true else if o = 2 then (bits .and .i64 (IntKind.wrap .i64 s.e) k) != 0 else if o = 3 then (IntKind.wrap .i64 s.a == k || IntKind.wrap .i64 s.b == k) else if o = 4 then IntKind.wrap .i64 s.a == k
  else if o = 5 then IntKind.wrap .i64 s.b == k else if o = 6 then s.o.any (fun p => p.1 == IntKind.wrap .u8 k) else if o = 7 then decide ((s.x.length : Int) ≥ k) else ((s.x.length : Int) == 0)
def mS (s : Sg) : PT → Bool
  | .nil => false
  | .node o k a b => if o = 8 then !mS s a else if o = 9 then mS s a && mS s b else if o = 10 then mS s a || mS s b else leafM s o k
theorem mk1 (n : Nat) (k : Int) (a b : PT) (s : Sg) : f60_filter_match (n + 1) (.node 1 k a b) s.a s.b s.c s.d s.e s.o s.x = some true := by kernel_rfl
theorem mk2 (n : Nat) (k : Int) (a b : PT) (s : Sg) : f60_filter_match (n + 1) (.node 2 k a b) s.a s.b s.c s.d s.e s.o s.x = some ((bits .and .i64 (IntKind.wrap .i64 s.e) k) != 0) := by kernel_rfl
theorem mk3 (n : Nat) (k : Int) (a b : PT) (s : Sg) : f60_filter_match (n + 1) (.node 3 k a b) s.a s.b s.c s.d s.e s.o s.x = if (IntKind.wrap .i64 s.a == k) = true then some true else some (IntKind.wrap .i64 s.b == k) := by kernel_rfl
theorem mk4 (n : Nat) (k : Int) (a b : PT) (s : Sg) : f60_filter_match (n + 1) (.node 4 k a b) s.a s.b s.c s.d s.e s.o s.x = some (IntKind.wrap .i64 s.a == k) := by kernel_rfl
theorem mk5 (n : Nat) (k : Int) (a b : PT) (s : Sg) : f60_filter_match (n + 1) (.node 5 k a b) s.a s.b s.c s.d s.e s.o s.x = some (IntKind.wrap .i64 s.b == k) := by kernel_rfl
theorem mk6 (n : Nat) (k : Int) (a b : PT) (s : Sg) : f60_filter_match (n + 1) (.node 6 k a b) s.a s.b s.c s.d s.e s.o s.x = (f89_seg_First n s.a s.b s.c s.d s.e s.o s.x (IntKind.wrap .u8 k)).bind fun r => some r.1 := by kernel_rfl
theorem mk7 (n : Nat) (k : Int) (a b : PT) (s : Sg) : f60_filter_match (n + 1) (.node 7 k a b) s.a s.b s.c s.d s.e s.o s.x = some (decide (((s.x.length : Nat) : Int) ≥ k)) := by kernel_rfl
theorem mk11 (n : Nat) (k : Int) (a b : PT) (s : Sg) : f60_filter_match (n + 1) (.node 11 k a b) s.a s.b s.c s.d s.e s.o s.x = some (((s.x.length : Nat) : Int) == 0) := by kernel_rfl
theorem mk8 (n : Nat) (k : Int) (a b : PT) (s : Sg) : f60_filter_match (n + 1) (.node 8 k a b) s.a s.b s.c s.d s.e s.o s.x = (f60_filter_match n a s.a s.b s.c s.d s.e s.o s.x).bind fun r => some (!r) := by kernel_rfl
theorem mk9 (n : Nat) (k : Int) (a b : PT) (s : Sg) : f60_filter_match (n + 1) (.node 9 k a b) s.a s.b s.c s.d s.e s.o s.x = (f60_filter_match n a s.a s.b s.c s.d s.e s.o s.x).bind fun r => if r = true then (f60_filter_match n b s.a s.b s.c s.d s.e s.o s.x).bind fun q => some q else some false := by kernel_rfl
theorem mk10 (n : Nat) (k : Int) (a b : PT) (s : Sg) : f60_filter_match (n + 1) (.node 10 k a b) s.a s.b s.c s.d s.e s.o s.x = (f60_filter_match n a s.a s.b s.c s.d s.e s.o s.x).bind fun r => if r = true then some true else (f60_filter_match n b s.a s.b s.c s.d s.e s.o s.x).bind fun q => some q := by kernel_rfl
theorem leafM_ev {o : Int} (h : Leaf o) (k : Int) (s : Sg) (hs : s.o.length ≤ 1000000) : Ev (fun n => f60_filter_match n (.node o k .nil .nil) s.a s.b s.c s.d s.e s.o s.x) (fun r => r = leafM s o k) := by
  apply Ev.succ
  unfold leafM
  rcases h with rfl | rfl | rfl | rfl | rfl | rfl | rfl | rfl
  · simp only [mk1]; exact Ev.some rfl
  · simp only [mk2]; exact Ev.some rfl
  · simp only [mk3]
    refine Ev.ite (fun c => Ev.some ?_) (fun c => Ev.some ?_)
    · rw [c]; rfl
    · rw [(by simpa using c : (IntKind.wrap .i64 s.a == k) = false)]; rfl
  · simp only [mk4]; exact Ev.some rfl
  · simp only [mk5]; exact Ev.some rfl
  · simp only [mk6]
    exact Ev.bind (first_ev _ _ _ _ _ _ _ _ hs) fun r hr => Ev.some hr
  · simp only [mk7]; exact Ev.some rfl
  · simp only [mk11]; exact Ev.some rfl
theorem match_ev (s : Sg) (hs : s.o.length ≤ 1000000) : ∀ {t : PT} (h : Tr t), Ev (fun n => f60_filter_match n t s.a s.b s.c s.d s.e s.o s.x) (fun r => r = mS s t) := by
  intro t h
  induction h with
  | @leaf o k h =>
    have e : mS s (.node o k .nil .nil) = leafM s o k := by unfold Leaf at h; rw [mS, if_neg (by omega), if_neg (by omega), if_neg (by omega)]
    rw [e]; exact leafM_ev h k s hs
  | @neg a h ih =>
    apply Ev.succ
    simp only [mk8]
    refine Ev.bind ih ?_
    rintro _ rfl
    exact Ev.some (by rw [mS, if_pos rfl])
  | @two o a b ho h k ih1 ih2 =>
    apply Ev.succ
    rcases ho with rfl | rfl
    · simp only [mk9]
      refine Ev.bind ih1 ?_
      rintro _ rfl
      have e : mS s (.node 9 0 a b) = (mS s a && mS s b) := by rw [mS, if_neg (by omega), if_pos rfl]
      rw [e]
      cases mS s a
      · exact Ev.neg (by simp) (Ev.some rfl)
      · refine Ev.pos rfl (Ev.bind ih2 ?_)
        rintro _ rfl
        exact Ev.some rfl
    · simp only [mk10]
      refine Ev.bind ih1 ?_
      rintro _ rfl
      have e : mS s (.node 10 0 a b) = (mS s a || mS s b) := by rw [mS, if_neg (by omega), if_neg (by omega), if_pos rfl]
      rw [e]
      cases mS s a
      · refine Ev.neg (by simp) (Ev.bind ih2 ?_)
        rintro _ rfl
        exact Ev.some rfl
      · exact Ev.pos rfl (Ev.some rfl)
theorem matchX_ev (s : Sg) (hs : s.o.length ≤ 1000000) (t : PT) : Ev (fun n => f32_filter_Match n t s.a s.b s.c s.d s.e s.o s.x) (fun r => (Tr t ∧ Good t ∧ r = mS s t) ∨ (¬ (Tr t ∧ Good t) ∧ r = false)) := by
  unfold f32_filter_Match
  refine Ev.bind (rightX_ev t) fun r hr => ?_
  by_cases c : r = true
  · obtain ⟨h, g⟩ := hr.1 c
    refine Ev.pos c (Ev.bind (match_ev s hs h) ?_)
    rintro _ rfl
    exact Ev.some (.inl ⟨h, g, rfl⟩)
  · exact Ev.neg c (Ev.some (.inr ⟨fun q => c (hr.2 q), rfl⟩))
theorem matchG_ev (s : Sg) (hs : s.o.length ≤ 1000000) {t : PT} (h : Tr t) (g : Good t) : Ev (fun n => f32_filter_Match n t s.a s.b s.c s.d s.e s.o s.x) (fun r => r = mS s t) :=
  (matchX_ev s hs t).mono fun r hr => by
    rcases hr with ⟨_, _, e⟩ | ⟨e, _⟩
    · exact e
    · exact absurd ⟨h, g⟩ e
/-- Great: whatever it says; if not, there are few options. -/
theorem greatS_loop (s0 s1 s2 s3 s4 : Int) (s5 : Opts) (s6 : List Int) (hl : s5.length ≤ 120) : ∀ (d i : Nat) (hi : i + d = s5.length), Ev (fun n => f29_broughamlaw07_Great_L4 n (i : Int) s0 s1 s2 s3 s4 s5 s6) (fun _ => True)
  | 0, i, hi => by
    apply Ev.succ
    simp only [f29_broughamlaw07_Great_L4]
    exact Ev.neg (by simp only [decide_eq_true_eq]; omega) (Ev.some trivial)
  | d + 1, i, hi => by
    apply Ev.succ
    simp only [f29_broughamlaw07_Great_L4]
    rw [i64_id (e := (i : Int) + 1) (by omega) (by omega)]
    exact Ev.pos (by simp only [decide_eq_true_eq]; omega) (Ev.guard (by omega) (Ev.ite (fun _ => Ev.some trivial) (fun _ => greatS_loop s0 s1 s2 s3 s4 s5 s6 hl d (i + 1) (by omega))))
theorem greatS_ev (s0 s1 s2 s3 s4 : Int) (s5 : Opts) (s6 : List Int) : Ev (fun n => f29_broughamlaw07_Great n s0 s1 s2 s3 s4 s5 s6) (fun r => r = false → s5.length ≤ 120 ∧ s6.length ≤ 2000) := by
  unfold f29_broughamlaw07_Great
  refine Ev.ite (fun _ => Ev.some (fun h => by cases h)) (fun c1 => Ev.ite (fun _ => Ev.some (fun h => by cases h)) (fun c2 => ?_))
  simp only [decide_eq_true_eq] at c1 c2
  refine Ev.bind (greatS_loop s0 s1 s2 s3 s4 s5 s6 (by omega) s5.length 0 (by omega)) fun w _ => ?_
  cases w with
  | inl e => exact Ev.some (fun _ => by omega)
  | inr e => exact Ev.some (fun _ => by omega)

theorem Ev2.ite {α : Type} {c : Prop} [Decidable c] {F G : Nat → Nat → Option α} {Q : α → Prop} (h : c → Ev2 F Q) (k : ¬ c → Ev2 G Q) : Ev2 (fun m n => if c then F m n else G m n) Q := by
  by_cases hc : c
  · exact Ev2.pos hc (h hc)
  · exact Ev2.neg hc (k hc)
theorem Ev2.guard {α : Type} {c : Prop} [Decidable c] {F : Nat → Nat → Option α} {Q : α → Prop} (hc : c) (h : Ev2 F Q) : Ev2 (fun m n => if c then F m n else none) Q := Ev2.pos hc h
theorem FT.ok_len {o k : Int} {l : List FT} (h : FT.ok (.mk o k l)) : l.length ≤ 4000000000000 ∧ ∀ x ∈ l, FT.ok x := by
  obtain ⟨_, _, h3, h4⟩ := h
  refine ⟨by omega, ?_⟩
  clear h3
  induction l with
  | nil => intro x hx; cases hx
  | cons t r ih =>
    intro x hx
    rcases List.mem_cons.1 hx with e | hx
    · rw [e]; exact h4.1
    · exact ih h4.2 x hx
theorem un_get (l : List FT) (i : Nat) (h : i < l.length) : ∃ x ∈ l, (l.map FT.un).getD i (0, 0, []) = x.un ∧ l.drop i = x :: l.drop (i + 1) := by
  refine ⟨l[i], List.getElem_mem h, ?_, List.drop_eq_getElem_cons h⟩
  rw [List.getD_eq_getElem?_getD, List.getElem?_map, List.getElem?_eq_getElem h]; rfl
abbrev DepE (x : FT) : Prop := Ev (fun n => f57_broughamref35_depth n x.un.1 x.un.2.1 (x.un.2.2.map FT.un)) (fun _ => True)
theorem dep_loop (o k : Int) (l : List FT) (hl : l.length ≤ 4000000000000) (h : ∀ x ∈ l, DepE x) : ∀ (d i : Nat) (hi : i + d = l.length) (z : Int),
    Ev2 (fun m n => f57_broughamref35_depth_L3 (f57_broughamref35_depth m) n z (i : Int) o k (l.map FT.un)) (fun _ => True)
  | 0, i, hi, z => by
    apply Ev2.succ
    simp only [f57_broughamref35_depth_L3]
    exact Ev2.neg (by simp only [decide_eq_true_eq, List.length_map]; omega) (Ev2.some trivial)
  | d + 1, i, hi, z => by
    obtain ⟨x, hx, e1, e2⟩ := un_get l i (by omega)
    apply Ev2.succ
    simp only [f57_broughamref35_depth_L3]
    rw [Int.toNat_natCast, i64_id (e := (i : Int) + 1) (by omega) (by omega), e1]
    refine Ev2.pos (by simp only [decide_eq_true_eq, List.length_map]; omega) (Ev2.guard (by simp only [List.length_map]; omega) (Ev2.bind (Ev2.left (h x hx)) fun r _ => ?_))
    exact Ev2.ite (fun _ => dep_loop o k l hl h d (i + 1) (by omega) r) (fun _ => dep_loop o k l hl h d (i + 1) (by omega) z)
theorem dep_step (o k : Int) (l : List FT) (hl : l.length ≤ 4000000000000) (h : ∀ x ∈ l, DepE x) : DepE (.mk o k l) := by
  show Ev (fun n => f57_broughamref35_depth n o k (l.map FT.un)) (fun _ => True)
  apply Ev.succ
  simp only [f57_broughamref35_depth]
  exact Ev.bind (Ev2.diag (dep_loop o k l hl h l.length 0 (by omega) 0)) fun r _ => Ev.some trivial
mutual
theorem dep_ev : ∀ x : FT, FT.ok x → DepE x
  | .mk o k l, h => dep_step o k l (FT.ok_len h).1 (deps_ev l (FT.ok_len h).2)
theorem deps_ev : ∀ l : List FT, (∀ x ∈ l, FT.ok x) → ∀ x ∈ l, DepE x
  | [], _, x, h => by cases h
  | t :: r, ho, x, h => by
    rcases List.mem_cons.1 h with e | h
    · rw [e]; exact dep_ev t (ho t List.mem_cons_self)
    · exact deps_ev r (fun y hy => ho y (List.mem_cons_of_mem _ hy)) x h
end
theorem ow1 (n : Nat) (k : Int) (L : List FR) : f88_broughamref35_own (n + 2) 1 k L = ((if (((L.length : Nat) : Int) != 0) = true then some false else (if (k == 0) = true then some true else some false).bind fun w => some w)).bind fun w => some w := by kernel_rfl
theorem ow2 (n : Nat) (k : Int) (L : List FR) : f88_broughamref35_own (n + 2) 2 k L = (if (((L.length : Nat) : Int) != 0) = true then some false else if (k == 1) = true then some true else if (k == 2) = true then some true else some (k == 4)).bind fun w => some w := by kernel_rfl
theorem ow3 (n : Nat) (k : Int) (L : List FR) : f88_broughamref35_own (n + 2) 3 k L = (if (((L.length : Nat) : Int) != 0) = true then some false else if (decide (k ≥ 0)) = true then some (decide (k ≤ 65535)) else some false).bind fun w => some w := by kernel_rfl
theorem ow4 (n : Nat) (k : Int) (L : List FR) : f88_broughamref35_own (n + 2) 4 k L = (if (((L.length : Nat) : Int) != 0) = true then some false else if (decide (k ≥ 0)) = true then some (decide (k ≤ 65535)) else some false).bind fun w => some w := by kernel_rfl
theorem ow5 (n : Nat) (k : Int) (L : List FR) : f88_broughamref35_own (n + 2) 5 k L = (if (((L.length : Nat) : Int) != 0) = true then some false else if (decide (k ≥ 0)) = true then some (decide (k ≤ 65535)) else some false).bind fun w => some w := by kernel_rfl
theorem ow6 (n : Nat) (k : Int) (L : List FR) : f88_broughamref35_own (n + 2) 6 k L = ((if (((L.length : Nat) : Int) != 0) = true then some false else (if (decide (k ≥ 1)) = true then some (decide (k ≤ 255)) else some false).bind fun w => some w)).bind fun w => some w := by kernel_rfl
theorem ow7 (n : Nat) (k : Int) (L : List FR) : f88_broughamref35_own (n + 2) 7 k L = ((if (((L.length : Nat) : Int) != 0) = true then some false else (if (decide (k ≥ 0)) = true then some (decide (k ≤ 2147483647)) else some false).bind fun w => some w)).bind fun w => some w := by kernel_rfl
theorem ow11 (n : Nat) (k : Int) (L : List FR) : f88_broughamref35_own (n + 2) 11 k L = ((if (((L.length : Nat) : Int) != 0) = true then some false else (if (k == 0) = true then some true else some false).bind fun w => some w)).bind fun w => some w := by kernel_rfl
theorem ow8 (n : Nat) (k : Int) (L : List FR) : f88_broughamref35_own (n + 2) 8 k L = ((if (((L.length : Nat) : Int) != 1) = true then some false else (if (k == 0) = true then some true else some false).bind fun w => some w)).bind fun w => some w := by kernel_rfl
theorem ow9 (n : Nat) (k : Int) (L : List FR) : f88_broughamref35_own (n + 2) 9 k L = ((if (((L.length : Nat) : Int) != 2) = true then some false else (if (k == 0) = true then some true else some false).bind fun w => some w)).bind fun w => some w := by kernel_rfl
theorem ow10 (n : Nat) (k : Int) (L : List FR) : f88_broughamref35_own (n + 2) 10 k L = ((if (((L.length : Nat) : Int) != 2) = true then some false else (if (k == 0) = true then some true else some false).bind fun w => some w)).bind fun w => some w := by kernel_rfl
theorem owo (n : Nat) (o k : Int) (L : List FR) (h : ¬ Leaf o) (h8 : o ≠ 8) (h9 : o ≠ 9) (h10 : o ≠ 10) : f88_broughamref35_own (n + 2) o k L = some false := by
  unfold Leaf at h
  simp only [not_or] at h
  obtain ⟨h1, h2, h3, h4, h5, h6, h7, h11⟩ := h
  by_cases ho : 1 ≤ o
  · have ho' : ¬ o ≤ 11 := by omega
    simp [f88_broughamref35_own, f88_broughamref35_own_L6, f88_broughamref35_own_L15, h2, h3, h4, h5, h6, h7, h8, h9, h10, ho, ho']
  · simp [f88_broughamref35_own, f88_broughamref35_own_L6, f88_broughamref35_own_L15, h2, h3, h4, h5, h6, h7, h8, h9, h10, ho]
def OwnP (o k : Int) (m : Nat) : Prop := (Leaf o ∧ m = 0 ∧ leafS o k = true) ∨ (o = 8 ∧ k = 0 ∧ m = 1) ∨ ((o = 9 ∨ o = 10) ∧ k = 0 ∧ m = 2)
theorem own_of {f : Nat → Option Bool} {X : Option Bool} {P : Bool → Prop} (h : ∀ n, f (n + 2) = X) (k : ∃ r, X = some r ∧ P r) : Ev f P := by
  obtain ⟨r, h1, h2⟩ := k
  exact ⟨r, h2, 2, fun n hn => by
    obtain ⟨m, rfl⟩ : ∃ m, n = m + 2 := ⟨n - 2, by omega⟩
    exact (h m).trans h1⟩
theorem own_says (o k : Int) (L : List FR) : Ev (fun n => f88_broughamref35_own n o k L) (fun r => r = true ↔ OwnP o k L.length) := by
  by_cases hL : Leaf o
  · have hL0 := hL
    have e : ∀ {P : Bool}, (P = true ↔ L.length = 0 ∧ leafS o k = true) → (P = true ↔ OwnP o k L.length) := by
      intro P hP
      rw [hP]
      unfold OwnP
      refine ⟨fun h => .inl ⟨hL0, h⟩, fun h => ?_⟩
      rcases h with h | h | h
      · exact h.2
      · unfold Leaf at hL0; omega
      · unfold Leaf at hL0; omega
    have z : ∀ {m : Nat}, ((((m : Nat) : Int) != 0) = true) ↔ ¬ m = 0 := by intro m; simp
    rcases hL with rfl | rfl | rfl | rfl | rfl | rfl | rfl | rfl
    · exact own_of (fun n => ow1 n k L) (by
        rw [bs, bs]; repeat' split
        all_goals exact ⟨_, rfl, e (by simp_all [leafS] <;> (intros; omega))⟩)
    · exact own_of (fun n => ow2 n k L) (by
        rw [bs]; repeat' split
        all_goals exact ⟨_, rfl, e (by simp_all [leafS] <;> (intros; omega))⟩)
    · exact own_of (fun n => ow3 n k L) (by
        rw [bs]; repeat' split
        all_goals exact ⟨_, rfl, e (by simp_all [leafS] <;> (intros; omega))⟩)
    · exact own_of (fun n => ow4 n k L) (by
        rw [bs]; repeat' split
        all_goals exact ⟨_, rfl, e (by simp_all [leafS] <;> (intros; omega))⟩)
    · exact own_of (fun n => ow5 n k L) (by
        rw [bs]; repeat' split
        all_goals exact ⟨_, rfl, e (by simp_all [leafS] <;> (intros; omega))⟩)
    · exact own_of (fun n => ow6 n k L) (by
        rw [bs, bs]; repeat' split
        all_goals exact ⟨_, rfl, e (by simp_all [leafS] <;> (intros; omega))⟩)
    · exact own_of (fun n => ow7 n k L) (by
        rw [bs, bs]; repeat' split
        all_goals exact ⟨_, rfl, e (by simp_all [leafS] <;> (intros; omega))⟩)
    · exact own_of (fun n => ow11 n k L) (by
        rw [bs, bs]; repeat' split
        all_goals exact ⟨_, rfl, e (by simp_all [leafS] <;> (intros; omega))⟩)
  by_cases h8 : o = 8
  · subst h8
    exact own_of (fun n => ow8 n k L) (by
      rw [bs, bs]; unfold OwnP
      repeat' split
      all_goals exact ⟨_, rfl, by simp_all; try omega⟩)
  by_cases h9 : o = 9
  · subst h9
    exact own_of (fun n => ow9 n k L) (by
      rw [bs, bs]; unfold OwnP
      repeat' split
      all_goals exact ⟨_, rfl, by simp_all; try omega⟩)
  by_cases h10 : o = 10
  · subst h10
    exact own_of (fun n => ow10 n k L) (by
      rw [bs, bs]; unfold OwnP
      repeat' split
      all_goals exact ⟨_, rfl, by simp_all; try omega⟩)
  refine own_of (fun n => owo n o k L hL h8 h9 h10) ⟨false, rfl, ?_⟩
  refine ⟨(fun h => by cases h), fun h => ?_⟩
  rcases h with h | h | h
  · exact absurd h.1 hL
  · exact absurd h.1 h8
  · rcases h.1 with h | h
    · exact absurd h h9
    · exact absurd h h10
def AllP (x : FT) : Prop := tw x ∧ Tr (md x) ∧ lvs (md x) = true
abbrev AllE (x : FT) : Prop := Ev (fun n => f58_broughamref35_all n x.un.1 x.un.2.1 (x.un.2.2.map FT.un)) (fun r => r = true → AllP x)
theorem all_loop (o k : Int) (l : List FT) (hl : l.length ≤ 4000000000000) (h : ∀ x ∈ l, AllE x) : ∀ (d i : Nat) (hi : i + d = l.length),
    Ev2 (fun m n => f58_broughamref35_all_L2 (f58_broughamref35_all m) n (i : Int) o k (l.map FT.un)) (fun w => w = .inl false ∨ (w = .inr (o, k, l.map FT.un) ∧ ∀ x ∈ l.drop i, AllP x))
  | 0, i, hi => by
    apply Ev2.succ
    simp only [f58_broughamref35_all_L2]
    refine Ev2.neg (by simp only [decide_eq_true_eq, List.length_map]; omega) (Ev2.some (.inr ⟨rfl, ?_⟩))
    rw [List.drop_eq_nil_of_le (by omega)]; intro x hx; cases hx
  | d + 1, i, hi => by
    obtain ⟨x, hx, e1, e2⟩ := un_get l i (by omega)
    apply Ev2.succ
    simp only [f58_broughamref35_all_L2]
    rw [Int.toNat_natCast, i64_id (e := (i : Int) + 1) (by omega) (by omega), e1]
    refine Ev2.pos (by simp only [decide_eq_true_eq, List.length_map]; omega) (Ev2.guard (by simp only [List.length_map]; omega) (Ev2.bind (Ev2.left (h x hx)) fun r hr => ?_))
    refine Ev2.ite (fun _ => Ev2.some (.inl rfl)) (fun c => (all_loop o k l hl h d (i + 1) (by omega)).mono fun w hw => ?_)
    rcases hw with hw | ⟨hw, hq⟩
    · exact .inl hw
    · refine .inr ⟨hw, ?_⟩
      rw [e2]
      intro y hy
      rcases List.mem_cons.1 hy with e | hy
      · rw [e]; exact hr (by simpa using c)
      · exact hq y hy
theorem all_fin {o k : Int} {l : List FT} (h : ∀ x ∈ l, AllP x) (ho : OwnP o k l.length) : AllP (.mk o k l) := by
  rcases ho with ⟨h1, h2, h3⟩ | ⟨rfl, rfl, h3⟩ | ⟨h1, rfl, h3⟩
  · obtain rfl := List.eq_nil_of_length_eq_zero h2
    exact ⟨⟨by simp, trivial⟩, Tr.leaf h1, h3⟩
  · obtain ⟨a, rfl⟩ := List.length_eq_one_iff.1 h3
    obtain ⟨p1, p2, p3⟩ := h a (by simp)
    exact ⟨⟨by simp, p1, trivial⟩, Tr.neg p2, (lvs_neg p2).trans p3⟩
  · obtain ⟨a, b, rfl⟩ : ∃ a b, l = [a, b] := by
      match l, h3 with
      | [a, b], _ => exact ⟨a, b, rfl⟩
    obtain ⟨p1, p2, p3⟩ := h a (by simp)
    obtain ⟨q1, q2, q3⟩ := h b (by simp)
    refine ⟨⟨by simp, p1, q1, trivial⟩, Tr.two h1 p2 q2, ?_⟩
    have e : lvs (.node o 0 (md a) (md b)) = (lvs (md a) && lvs (md b)) := lvs_two p2
    exact e.trans (by rw [p3, q3]; rfl)
theorem all_step (o k : Int) (l : List FT) (hl : l.length ≤ 4000000000000) (h : ∀ x ∈ l, AllE x) : AllE (.mk o k l) := by
  show Ev (fun n => f58_broughamref35_all n o k (l.map FT.un)) (fun r => r = true → AllP (.mk o k l))
  apply Ev.succ
  simp only [f58_broughamref35_all]
  refine Ev.bind (Ev2.diag (all_loop o k l hl h l.length 0 (by omega))) fun w hw => ?_
  rcases hw with rfl | ⟨rfl, hq⟩
  · exact Ev.some fun h => by cases h
  · refine Ev.bind (own_says o k (l.map FT.un)) fun r hr => Ev.some fun q => ?_
    rw [List.length_map] at hr
    exact all_fin hq (hr.1 q)
mutual
theorem allX_ev : ∀ x : FT, FT.ok x → AllE x
  | .mk o k l, h => all_step o k l (FT.ok_len h).1 (allXs_ev l (FT.ok_len h).2)
theorem allXs_ev : ∀ l : List FT, (∀ x ∈ l, FT.ok x) → ∀ x ∈ l, AllE x
  | [], _, x, h => by cases h
  | t :: r, ho, x, h => by
    rcases List.mem_cons.1 h with e | h
    · rw [e]; exact allX_ev t (ho t List.mem_cons_self)
    · exact allXs_ev r (fun y hy => ho y (List.mem_cons_of_mem _ hy)) x h
end
theorem rightR_ev (x : FT) (h : FT.ok x) : Ev (fun n => f30_broughamref35_Right n x.un.1 x.un.2.1 (x.un.2.2.map FT.un)) (fun r => r = true → AllP x) := by
  unfold f30_broughamref35_Right
  refine Ev.bind (dep_ev x h) fun r _ => Ev.ite (fun _ => Ev.bind (allX_ev x h) fun r hr => Ev.some hr) (fun _ => Ev.some fun q => by cases q)
abbrev PtsE (x : FT) : Prop := Ev (fun n => f37_broughamlaw35_parts n x.un.1 x.un.2.1 (x.un.2.2.map FT.un) 100) (fun _ => True)
theorem pts_step (o k : Int) (l : List FT) (h : ∀ x ∈ l, PtsE x) : PtsE (.mk o k l) := by
  show Ev (fun n => f37_broughamlaw35_parts n o k (l.map FT.un) 100) (fun _ => True)
  apply Ev.succ
  simp only [f37_broughamlaw35_parts]
  match l, h with
  | [], h =>
    refine Ev.neg (by simp) (Ev.bind (P := fun _ => True) ?_ fun _ _ => Ev.some trivial)
    apply Ev.succ
    simp only [f37_broughamlaw35_parts_L5]
    exact Ev.neg (by simp) (Ev.some trivial)
  | [a], h =>
    refine Ev.neg (by simp) (Ev.bind (P := fun _ => True) ?_ fun _ _ => Ev.some trivial)
    apply Ev.succ
    simp only [f37_broughamlaw35_parts_L5]
    refine Ev.pos (by simp) (Ev.pos (by decide) (Ev.guard (by simp) (Ev.bind (Ev.sh (h a (by simp))) fun r hr => ?_)))
    apply Ev.succ
    simp only [f37_broughamlaw35_parts_L5]
    rw [show IntKind.wrap .i64 (0 + 1) = 1 from by decide]
    exact Ev.neg (by simp) (Ev.some trivial)
  | [a, b], h =>
    refine Ev.neg (by simp) (Ev.bind (P := fun _ => True) ?_ fun _ _ => Ev.some trivial)
    apply Ev.succ
    simp only [f37_broughamlaw35_parts_L5]
    refine Ev.pos (by simp) (Ev.pos (by decide) (Ev.guard (by simp) (Ev.bind (Ev.sh (h a (by simp))) fun r hr => ?_)))
    apply Ev.succ
    simp only [f37_broughamlaw35_parts_L5]
    rw [show IntKind.wrap .i64 (0 + 1) = 1 from by decide]
    refine Ev.pos (by simp) (Ev.ite (fun c => Ev.guard (by simp) (Ev.bind (Ev.sh (Ev.sh (h b (by simp)))) fun s hs => ?_)) (fun c => Ev.some trivial))
    apply Ev.succ
    simp only [f37_broughamlaw35_parts_L5]
    rw [show IntKind.wrap .i64 (1 + 1) = 2 from by decide]
    exact Ev.neg (by simp) (Ev.some trivial)
  | a :: b :: c :: r, h => exact Ev.pos (by simp; omega) (Ev.some trivial)
mutual
theorem pts_ev : ∀ x : FT, PtsE x
  | .mk o k l => pts_step o k l (ptss_ev l)
theorem ptss_ev : ∀ l : List FT, ∀ x ∈ l, PtsE x
  | [], x, h => by cases h
  | t :: r, x, h => by
    rcases List.mem_cons.1 h with e | h
    · rw [e]; exact pts_ev t
    · exact ptss_ev r x h
end
def allT : PT := .node 1 0 .nil .nil
theorem allT_tr : Tr allT ∧ Good allT := ⟨.leaf (.inl rfl), rfl⟩
theorem good_neg {t : PT} (h : Tr t) (g : Good (.node 8 0 t .nil)) : Good t ∧ dpt t ≤ 15 := by
  unfold Good at g ⊢
  rw [lvs_neg h, dpt_neg] at g
  simp only [Bool.and_eq_true, decide_eq_true_eq] at g ⊢
  exact ⟨⟨by omega, g.2⟩, by omega⟩
theorem good_two {o : Int} {t u : PT} (h : Tr t) (g : Good (.node o 0 t u)) : Good t ∧ Good u ∧ dpt t ≤ 15 ∧ dpt u ≤ 15 := by
  unfold Good at g ⊢
  rw [lvs_two h, dpt_two] at g
  simp only [Bool.and_eq_true, decide_eq_true_eq] at g ⊢
  exact ⟨⟨by omega, g.2.1⟩, ⟨by omega, g.2.2⟩, by omega, by omega⟩
theorem reftext_is : ∀ (k m : Nat) (hk : k < 30) (hm : m < 10 ^ (k + 1)) (h63 : m ≤ 9223372036854775807), Ev (fun n => f62_broughamref01_Text n (m : Int)) (fun r => r = ⟨(textF (k + 1) m).toArray⟩) := by
  intro k
  induction k with
  | zero =>
    intro m hk hm h63
    have hm : m < 10 := by simpa using hm
    apply Ev.succ
    unfold f62_broughamref01_Text
    refine Ev.pos (by simp only [decide_eq_true_eq]; omega) (Ev.neg (by simp only [decide_eq_true_eq]; omega) (Ev.guard (cut_dig m hm) (Ev.some ?_)))
    rw [i64_id (by omega) (by omega), show ((m : Int) + 1).toNat = m + 1 by omega, Int.toNat_natCast, dig_ext' m hm, textF, if_pos hm]
  | succ k ih =>
    intro m hk hm h63
    apply Ev.succ
    unfold f62_broughamref01_Text
    refine Ev.ite (fun c => ?_) (fun c => ?_)
    · simp only [decide_eq_true_eq] at c
      refine Ev.neg (by simp only [decide_eq_true_eq]; omega) (Ev.guard (cut_dig m (by omega)) (Ev.some ?_))
      rw [i64_id (by omega) (by omega), show ((m : Int) + 1).toNat = m + 1 by omega, Int.toNat_natCast, dig_ext' m (by omega), textF, if_pos (by omega)]
    · simp only [decide_eq_true_eq] at c
      have e1 : IntKind.wrap .i64 (Int.tdiv (m : Int) 10) = ((m / 10 : Nat) : Int) := by
        rw [tdiv_e (by omega), i64_id (by omega) (by omega)]; omega
      have e2 : Int.tmod (m : Int) 10 = ((m % 10 : Nat) : Int) := by
        rw [tmod_e (by omega)]; omega
      rw [e1, e2]
      refine Ev.bind (ih (m / 10) (by omega) (by rw [Nat.pow_succ] at hm; omega) (by omega)) ?_
      rintro _ rfl
      have e3 : IntKind.wrap .i64 (((m % 10 : Nat) : Int) + 1) = ((m % 10 : Nat) : Int) + 1 := i64_id (by omega) (by omega)
      have hlen := textF_len (k + 1) (m / 10)
      refine Ev.guard (cut_dig (m % 10) (by omega)) ?_
      rw [e3, show (((m % 10 : Nat) : Int) + 1).toNat = m % 10 + 1 by omega, Int.toNat_natCast, dig_ext' (m % 10) (by omega)]
      refine Ev.guard ?_ (Ev.some ?_)
      · have : (⟨(textF (k + 1) (m / 10)).toArray⟩ : ByteArray).size = (textF (k + 1) (m / 10)).length := by simp [ByteArray.size]
        rw [this]
        have : (⟨[(48 + m % 10).toUInt8].toArray⟩ : ByteArray).size = 1 := by simp [ByteArray.size]
        rw [this]; omega
      · rw [app_arr]
        congr 2
        show _ = (if m < 10 then _ else _)
        rw [if_neg (by omega)]
theorem textZ (n : Int) (h0 : -9223372036854775808 ≤ n) (h1 : n < 9223372036854775808) : Ev (fun k => f62_broughamref01_Text k n) (fun r => r = textB n) := by
  unfold textB
  by_cases h : 0 ≤ n
  · obtain ⟨m, rfl⟩ := Int.eq_ofNat_of_zero_le h
    rw [Int.toNat_natCast]
    exact reftext_is 19 m (by omega) (by omega) (by omega)
  · rw [show n.toNat = 0 by omega]
    apply Ev.succ
    unfold f62_broughamref01_Text
    refine Ev.pos (by simp only [decide_eq_true_eq]; omega) (Ev.pos (by simp only [decide_eq_true_eq]; omega) (Ev.guard (cut_dig 0 (by omega)) (Ev.some ?_)))
    rfl
/-- A digit's number; below 0: it is none. -/
def digV (n : Nat) : Int := if 48 ≤ n ∧ n ≤ 57 then (n : Int) - 48 else if 97 ≤ n ∧ n ≤ 102 then (n : Int) - 87 else -1
theorem digV_lt (n : Nat) : -1 ≤ digV n ∧ digV n < 16 := by unfold digV; constructor <;> (repeat' split) <;> omega
def unhexF : List UInt8 → Option (List Int)
  | [] => some []
  | [_] => none
  | x :: y :: r => if digV x.toNat < 0 ∨ digV y.toNat < 0 then none else (unhexF r).map fun b => (digV x.toNat * 16 + digV y.toNat) :: b
def unhexR (l : List UInt8) : List Int × Int := if l = [45] then ([], 0) else match unhexF l with
  | none => ([], 11)
  | some b => if b = [] then ([], 11) else (b, 0)
theorem idx_fin : ∀ n : Fin 256, Lib.indexByte [48, 49, 50, 51, 52, 53, 54, 55, 56, 57, 97, 98, 99, 100, 101, 102] n.val.toUInt8 = digV n.val := by decide
theorem idx_is (c : UInt8) : Lib.indexByte dg.data.toList (((c.toNat : Nat) : Int)).toNat.toUInt8 = digV c.toNat := by
  rw [Int.toNat_natCast]
  exact idx_fin ⟨c.toNat, c.toNat_lt⟩
theorem index_ev (c : UInt8) : Ev (fun _ => f72_strings_IndexByte dg (c.toNat : Int)) (fun r => r = digV c.toNat) := by
  unfold f72_strings_IndexByte
  exact Ev.some (idx_is c)
theorem unhex_len : ∀ (k : Nat) (l : List UInt8) (hk : l.length ≤ k) (b : List Int), unhexF l = some b → 2 * b.length = l.length
  | 0, l, hk, b, h => by
    have : l = [] := List.eq_nil_of_length_eq_zero (by omega)
    subst this
    simp only [unhexF, Option.some.injEq] at h
    subst h; rfl
  | k + 1, [], hk, b, h => by
    simp only [unhexF, Option.some.injEq] at h
    subst h; rfl
  | k + 1, [x], hk, b, h => by cases h
  | k + 1, x :: y :: r, hk, b, h => by
    rw [unhexF] at h
    split at h
    · cases h
    · obtain ⟨b', h', rfl⟩ := Option.map_eq_some_iff.1 h
      have := unhex_len k r (by simp at hk; omega) b' h'
      simp; omega
theorem hexD_fin : ∀ n : Fin 16, digV (hexD n.val).toNat = n.val := by decide
theorem hexD_is (n : Nat) (h : n < 16) : digV (hexD n).toNat = n := hexD_fin ⟨n, h⟩
theorem back_fin : ∀ n : Fin 256, 0 ≤ digV n.val → hexD (digV n.val).toNat = n.val.toUInt8 := by decide
theorem back_is (c : UInt8) (h : 0 ≤ digV c.toNat) : hexD (digV c.toNat).toNat = c := by
  rw [back_fin ⟨c.toNat, c.toNat_lt⟩ h]
  simp
theorem unhex_hex : ∀ (b : List Int), Bytes b → unhexF (hexL (b.map fun x => x.toNat.toUInt8)) = some b
  | [], _ => rfl
  | x :: b, h => by
    have hx := h.head
    have e : (x.toNat.toUInt8).toNat = x.toNat := by simp; omega
    show unhexF (hexD ((x.toNat.toUInt8).toNat / 16) :: hexD ((x.toNat.toUInt8).toNat % 16) :: hexL (b.map fun x => x.toNat.toUInt8)) = _
    rw [unhexF, e, hexD_is _ (by omega), hexD_is _ (by omega), if_neg (by omega), unhex_hex b h.tail]
    simp; omega
theorem hex_unhex : ∀ (k : Nat) (l : List UInt8) (hk : l.length ≤ k) (b : List Int), unhexF l = some b → Bytes b ∧ hexL (b.map fun x => x.toNat.toUInt8) = l
  | 0, l, hk, b, h => by
    have : l = [] := List.eq_nil_of_length_eq_zero (by omega)
    subst this
    simp only [unhexF, Option.some.injEq] at h
    subst h; exact ⟨Bytes.nil, rfl⟩
  | k + 1, [], hk, b, h => by
    simp only [unhexF, Option.some.injEq] at h
    subst h; exact ⟨Bytes.nil, rfl⟩
  | k + 1, [x], hk, b, h => by cases h
  | k + 1, x :: y :: r, hk, b, h => by
    have d1 := digV_lt x.toNat
    have d2 := digV_lt y.toNat
    rw [unhexF] at h
    split at h
    · cases h
    · rename_i hc
      obtain ⟨b', h', rfl⟩ := Option.map_eq_some_iff.1 h
      obtain ⟨i1, i2⟩ := hex_unhex k r (by simp at hk; omega) b' h'
      refine ⟨Bytes.cons ⟨by omega, by omega⟩ i1, ?_⟩
      have e : ((digV x.toNat * 16 + digV y.toNat).toNat.toUInt8).toNat = (digV x.toNat * 16 + digV y.toNat).toNat := by simp; omega
      show hexD (((digV x.toNat * 16 + digV y.toNat).toNat.toUInt8).toNat / 16) :: hexD (((digV x.toNat * 16 + digV y.toNat).toNat.toUInt8).toNat % 16) :: hexL (b'.map fun x => x.toNat.toUInt8) = _
      rw [i2, e, show (digV x.toNat * 16 + digV y.toNat).toNat / 16 = (digV x.toNat).toNat by omega, show (digV x.toNat * 16 + digV y.toNat).toNat % 16 = (digV y.toNat).toNat by omega, back_is x (by omega), back_is y (by omega)]
theorem hex_ev (b : List Int) (hl : b.length ≤ 90000) (hb : Bytes b) : Ev (fun _ => f53_num_Hex b) (fun r => r = hexB b) := by
  unfold f53_num_Hex
  exact Ev.pos ⟨by omega, hb⟩ (Ev.some rfl)
theorem unhexR_hexB (b : List Int) (hb : Bytes b) : unhexR (hexB b).data.toList = (b, 0) := by
  unfold hexB
  by_cases h : b = []
  · subst h; rfl
  · rw [if_neg h]
    have e : (⟨(hexL (b.map fun x => x.toNat.toUInt8)).toArray⟩ : ByteArray).data.toList = hexL (b.map fun x => x.toNat.toUInt8) := rfl
    rw [e]
    unfold unhexR
    have hlen := hexL_len (b.map fun x => x.toNat.toUInt8)
    rw [List.length_map] at hlen
    have hne : b.length ≠ 0 := fun e => h (List.eq_nil_of_length_eq_zero e)
    rw [if_neg (fun e => by rw [e] at hlen; simp at hlen; omega), unhex_hex b hb]
    dsimp only
    rw [if_neg h]
end Go.Proofs.YtakamchmiakicaaDoorF35c
