/- Counts as digits, and digits as counts: plain Lean. -/
import Derived.Test.YtakamchmiakicaaF01
namespace Go.Proofs
open Go Zed
set_option linter.unusedVariables false
set_option linter.unusedSimpArgs false

/-- What digits tell. -/
def valF (a : Nat) : List UInt8 → Nat
  | [] => a
  | c :: r => valF (a * 10 + (c.toNat - 48)) r
def Digs (l : List UInt8) : Prop := ∀ c ∈ l, 48 ≤ c.toNat ∧ c.toNat ≤ 57
def Canon (l : List UInt8) : Prop := Digs l ∧ l ≠ [] ∧ (l.length = 1 ∨ l.head? ≠ some 48)
theorem valF_app (l r : List UInt8) : ∀ a, valF a (l ++ r) = valF (valF a l) r := by
  induction l with
  | nil => intro a; rfl
  | cons c l ih => intro a; exact ih _
theorem valF_ge (l : List UInt8) : ∀ a, a ≤ valF a l := by
  induction l with
  | nil => intro a; exact Nat.le_refl _
  | cons c l ih => intro a; exact Nat.le_trans (by omega) (ih _)
theorem valF_pow0 (a : Nat) : a * 10 ^ ([] : List UInt8).length ≤ valF a [] := by
  have h : a * 10 ^ 0 ≤ a := by omega
  exact h
theorem valF_pow (l : List UInt8) : ∀ a, a * 10 ^ l.length ≤ valF a l := by
  induction l with
  | nil => exact valF_pow0
  | cons c l ih =>
    intro a
    have h := ih (a * 10 + (c.toNat - 48))
    rw [List.length_cons, Nat.pow_succ, Nat.mul_comm (10 ^ l.length), ← Nat.mul_assoc]
    have h2 : a * 10 * 10 ^ l.length ≤ (a * 10 + (c.toNat - 48)) * 10 ^ l.length := Nat.mul_le_mul_right _ (Nat.le_add_right _ _)
    exact Nat.le_trans h2 h
theorem parseF_cons (c : UInt8) (r : List UInt8) (a : Nat) : parseF (c :: r) a = if 48 ≤ c.toNat ∧ c.toNat ≤ 57 ∧ a ≤ (2147483647 - (c.toNat - 48)) / 10 then parseF r (a * 10 + (c.toNat - 48)) else none := by rw [parseF]
theorem parseF_some (l : List UInt8) : ∀ (a n : Nat) (h : parseF l a = some n) (ha : a ≤ 2147483647), Digs l ∧ n = valF a l ∧ n ≤ 2147483647 := by
  induction l with
  | nil =>
    intro a n h ha
    have h : some a = some n := h
    simp only [Option.some.injEq] at h
    subst h
    exact ⟨fun c hc => (by cases hc), rfl, ha⟩
  | cons c r ih =>
    intro a n h ha
    rw [parseF_cons] at h
    split at h
    · rename_i hc
      obtain ⟨h1, h2, h3⟩ := ih _ n h (by omega)
      refine ⟨fun d hd => ?_, h2, h3⟩
      rcases List.mem_cons.1 hd with rfl | hd
      · exact ⟨hc.1, hc.2.1⟩
      · exact h1 d hd
    · cases h
theorem parseF_of (l : List UInt8) : ∀ (a : Nat) (hd : Digs l) (hv : valF a l ≤ 2147483647), parseF l a = some (valF a l) := by
  induction l with
  | nil => intro a _ _; rfl
  | cons c r ih =>
    intro a hd hv
    have hc := hd c List.mem_cons_self
    have hge := valF_ge r (a * 10 + (c.toNat - 48))
    have hv : valF (a * 10 + (c.toNat - 48)) r ≤ 2147483647 := hv
    rw [parseF_cons, if_pos ⟨hc.1, hc.2, by omega⟩]
    exact ih _ (fun d h => hd d (List.mem_cons_of_mem _ h)) hv
theorem dig_toNat (d : Nat) (h : d < 10) : ((48 + d).toUInt8).toNat = 48 + d := by simp; omega
theorem dig_eq (c : UInt8) (h : 48 ≤ c.toNat ∧ c.toNat ≤ 57) : (48 + (c.toNat - 48)).toUInt8 = c := by
  apply UInt8.toNat_inj.1
  rw [dig_toNat _ (by omega)]; omega
theorem canon_text : ∀ (k : Nat) (l : List UInt8), Canon l → l.length ≤ k → textF k (valF 0 l) = l
  | 0, l, h, hk => absurd (List.eq_nil_of_length_eq_zero (by omega)) h.2.1
  | k + 1, l, ⟨hd, hne, hh⟩, hk => by
    obtain ⟨r, c, rfl⟩ : ∃ r c, l = r ++ [c] := ⟨l.dropLast, l.getLast hne, (List.dropLast_concat_getLast hne).symm⟩
    have hc := hd c (by simp)
    have hdr : Digs r := fun d h => hd d (List.mem_append_left _ h)
    rw [valF_app]
    show textF (k + 1) (valF 0 r * 10 + (c.toNat - 48)) = _
    cases r with
    | nil =>
      show textF (k + 1) (0 * 10 + (c.toNat - 48)) = _
      rw [textF, if_pos (by omega), show 0 * 10 + (c.toNat - 48) = c.toNat - 48 by omega, dig_eq c hc]; rfl
    | cons d r =>
      have hd0 : d ≠ 48 := by
        rcases hh with hh | hh
        · simp at hh
        · intro e; subst e; simp at hh
      have hdd := hdr d List.mem_cons_self
      have hd1 : 49 ≤ d.toNat := by
        rcases Nat.lt_or_ge d.toNat 49 with q | q
        · exact absurd (UInt8.toNat_inj.1 (show d.toNat = (48 : UInt8).toNat by rw [show (48 : UInt8).toNat = 48 from rfl]; omega)) hd0
        · exact q
      have hv : 1 ≤ valF 0 (d :: r) := Nat.le_trans (by omega) (valF_ge r (0 * 10 + (d.toNat - 48)))
      rw [textF, if_neg (by omega), show (valF 0 (d :: r) * 10 + (c.toNat - 48)) / 10 = valF 0 (d :: r) by omega, show (valF 0 (d :: r) * 10 + (c.toNat - 48)) % 10 = c.toNat - 48 by omega, dig_eq c hc]
      rw [canon_text k (d :: r) ⟨hdr, by simp, .inr (by simp; exact hd0)⟩ (by simp at hk ⊢; omega)]
theorem text_canon : ∀ (k n : Nat), n < 10 ^ (k + 1) → Digs (textF (k + 1) n) ∧ textF (k + 1) n ≠ [] ∧ valF 0 (textF (k + 1) n) = n ∧ (textF (k + 1) n).length ≤ k + 1 ∧ (1 ≤ n → (textF (k + 1) n).head? ≠ some 48) ∧ (n < 10 → (textF (k + 1) n).length = 1)
  | k, n, hn => by
    by_cases h : n < 10
    · have hd := dig_toNat n h
      rw [textF, if_pos h]
      refine ⟨fun c hc => ?_, by simp, ?_, by simp, fun h1 => ?_, fun _ => rfl⟩
      · simp only [List.mem_singleton] at hc; subst hc; omega
      · show 0 * 10 + ((48 + n).toUInt8.toNat - 48) = n
        omega
      · intro e
        have e := Option.some.inj e
        have := congrArg UInt8.toNat e
        rw [hd] at this
        rw [show (48 : UInt8).toNat = 48 from rfl] at this
        omega
    · cases k with
      | zero => simp at hn; omega
      | succ k =>
        have hd := dig_toNat (n % 10) (by omega)
        obtain ⟨i1, i2, i3, i4, i5, i6⟩ := text_canon k (n / 10) (by rw [Nat.pow_succ] at hn; omega)
        have e : textF (k + 1 + 1) n = textF (k + 1) (n / 10) ++ [(48 + n % 10).toUInt8] := by
          show (if n < 10 then _ else _) = _
          rw [if_neg h]
        rw [e]
        refine ⟨fun c hc => ?_, by simp, ?_, by simp; omega, fun _ => ?_, fun q => absurd q h⟩
        · rcases List.mem_append.1 hc with hc | hc
          · exact i1 c hc
          · simp only [List.mem_singleton] at hc; subst hc; omega
        · rw [valF_app, i3]
          show n / 10 * 10 + ((48 + n % 10).toUInt8.toNat - 48) = n
          omega
        · obtain ⟨d, r, e⟩ := List.exists_cons_of_ne_nil i2
          have := i5 (by omega)
          rw [e] at this ⊢
          exact this
theorem textL_canon (n : Nat) (hn : n ≤ 9223372036854775807) : Canon (textL n) ∧ valF 0 (textL n) = n := by
  obtain ⟨i1, i2, i3, i4, i5, i6⟩ := text_canon 19 n (by omega)
  refine ⟨⟨i1, i2, ?_⟩, i3⟩
  by_cases h : n < 10
  · exact .inl (i6 h)
  · exact .inr (i5 (by omega))
theorem canon_len {l : List UInt8} (h : Canon l) (hv : valF 0 l ≤ 2147483647) : l.length ≤ 10 := by
  obtain ⟨hd, hne, hh⟩ := h
  cases l with
  | nil => exact absurd rfl hne
  | cons c r =>
    rcases hh with hh | hh
    · omega
    · have hc := hd c List.mem_cons_self
      have hc0 : c ≠ 48 := by intro e; subst e; simp at hh
      have hc1 : 49 ≤ c.toNat := by
        rcases Nat.lt_or_ge c.toNat 49 with q | q
        · exact absurd (UInt8.toNat_inj.1 (show c.toNat = (48 : UInt8).toNat by rw [show (48 : UInt8).toNat = 48 from rfl]; omega)) hc0
        · exact q
      have hp : (0 * 10 + (c.toNat - 48)) * 10 ^ r.length ≤ valF 0 (c :: r) := valF_pow r _
      have h1 : 10 ^ r.length ≤ 2147483647 := Nat.le_trans (by calc 10 ^ r.length = 1 * 10 ^ r.length := by omega
        _ ≤ (0 * 10 + (c.toNat - 48)) * 10 ^ r.length := Nat.mul_le_mul_right _ (by omega)) (Nat.le_trans hp hv)
      rcases Nat.lt_or_ge r.length 10 with q | q
      · rw [List.length_cons]; omega
      · have := Nat.pow_le_pow_right (show 0 < 10 by omega) q
        omega
/-- What Parse answers. -/
theorem parseR_yes {l : List UInt8} (h : Canon l) (hv : valF 0 l ≤ 2147483647) : parseR l = (((valF 0 l : Nat) : Int), 0) := by
  have ht : textL (valF 0 l) = l := canon_text 20 l h (by have := canon_len h hv; omega)
  rw [parseR, parseF_of l 0 h.1 hv]
  dsimp only
  rw [if_pos ht]
theorem parseR_no {l : List UInt8} (h : ¬ (Canon l ∧ valF 0 l ≤ 2147483647)) : parseR l = (0, 10) := by
  rw [parseR]
  cases hp : parseF l 0 with
  | none => rfl
  | some n =>
    obtain ⟨h1, h2, h3⟩ := parseF_some l 0 n hp (by omega)
    dsimp only
    rw [if_neg]
    intro e
    subst h2
    have := (textL_canon (valF 0 l) (by omega)).1
    rw [e] at this
    exact h ⟨this, h3⟩
theorem parseR_text {n : Nat} (hn : n ≤ 2147483647) : parseR (textL n) = ((n : Int), 0) := by
  obtain ⟨h1, h2⟩ := textL_canon n (by omega)
  rw [parseR_yes h1 (by omega), h2]
end Go.Proofs
