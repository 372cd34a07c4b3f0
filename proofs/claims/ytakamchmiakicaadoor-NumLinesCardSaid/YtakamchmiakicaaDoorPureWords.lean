/- Words between blanks, ahead of a sign; lines of words: plain Lean on bytes. -/
import Derived.Test.YtakamchmiakicaaDoorPureLine01
import Derived.Lib.IndexLaws
import Derived.Lib.IndexBytes
import Derived.Lib.CutLaws
namespace Go.Proofs
open Go
set_option linter.unusedVariables false
set_option linter.unusedSimpArgs false

/-- A word, if it is one. -/
def emit (w : List UInt8) : List (List UInt8) := if w = [] then [] else [w]
/-- The words between bytes c. -/
def ws (c : UInt8) (now : List UInt8) : List UInt8 → List (List UInt8)
  | [] => emit now
  | x :: r => if x = c then emit now ++ ws c [] r else ws c (now ++ [x]) r
/-- The words between blanks, ahead of a #. -/
def pc (now : List UInt8) : List UInt8 → List (List UInt8)
  | [] => emit now
  | x :: r => if x = 35 then emit now else if x = 32 then emit now ++ pc [] r else pc (now ++ [x]) r
def upto (l : List UInt8) : List UInt8 := l.takeWhile (· != 35)
theorem pc_ws : ∀ (l now : List UInt8), pc now l = ws 32 now (upto l)
  | [], now => rfl
  | x :: r, now => by
    rw [pc]
    by_cases h : x = 35
    · rw [if_pos h]; subst h; rfl
    · rw [if_neg h]
      have e : upto (x :: r) = x :: upto r := by
        unfold upto
        rw [List.takeWhile_cons, if_pos (by simpa using h)]
      rw [e, ws]
      split
      · rw [pc_ws r []]
      · rw [pc_ws r _]
theorem ws_no (c : UInt8) : ∀ (l now : List UInt8), c ∉ l → ws c now l = emit (now ++ l)
  | [], now, h => by rw [List.append_nil]; rfl
  | x :: r, now, h => by
    have hx : ¬ x = c := fun e => h (by rw [e]; exact List.mem_cons_self)
    rw [ws, if_neg hx, ws_no c r _ (fun q => h (List.mem_cons_of_mem _ q)), List.append_assoc]; rfl
theorem ws_at (c : UInt8) : ∀ (a r now : List UInt8), c ∉ a → ws c now (a ++ c :: r) = emit (now ++ a) ++ ws c [] r
  | [], r, now, h => by rw [List.nil_append, ws, if_pos rfl, List.append_nil]
  | x :: a, r, now, h => by
    have hx : ¬ x = c := fun e => h (by rw [e]; exact List.mem_cons_self)
    rw [List.cons_append, ws, if_neg hx, ws_at c a r _ (fun q => h (List.mem_cons_of_mem _ q)), List.append_assoc]; rfl
def fil (l : List (List UInt8)) : List (List UInt8) := l.filter fun w => decide (w ≠ [])
theorem fil_one (w : List UInt8) : fil [w] = emit w := by
  unfold fil emit
  by_cases h : w = [] <;> simp [h]
theorem fil_cons (w : List UInt8) (l : List (List UInt8)) : fil (w :: l) = emit w ++ fil l := by
  unfold fil emit
  by_cases h : w = [] <;> simp [h]
theorem byte_none {l : List UInt8} {c : UInt8} (h : Lib.indexByte l c = -1) : c ∉ l := by
  intro hm
  obtain ⟨k, hk⟩ := List.getElem?_of_mem hm
  exact Lib.indexByte_none h k hk
theorem byte_some {l : List UInt8} {c : UInt8} {o : Nat} (h : Lib.indexByte l c = o) : l = l.take o ++ c :: l.drop (o + 1) ∧ c ∉ l.take o ∧ o < l.length := by
  obtain ⟨h1, h2⟩ := Lib.indexByte_some h
  have hlt := (List.getElem?_eq_some_iff.1 h1).1
  have he := (List.getElem?_eq_some_iff.1 h1).2
  refine ⟨?_, fun hm => ?_, hlt⟩
  · conv => lhs; rw [← List.take_append_drop o l]
    rw [List.drop_eq_getElem_cons hlt, he]
  · obtain ⟨k, hk⟩ := List.getElem?_of_mem hm
    rw [List.getElem?_take] at hk
    split at hk
    · rename_i hko
      exact h2 k hko hk
    · cases hk
theorem byte_cases (l : List UInt8) (c : UInt8) : Lib.indexByte l c = -1 ∨ ∃ o : Nat, Lib.indexByte l c = o := by
  have := Lib.indexByte_ge l c
  by_cases h : Lib.indexByte l c = -1
  · exact .inl h
  · exact .inr ⟨(Lib.indexByte l c).toNat, by omega⟩
theorem split_fil (c : UInt8) : ∀ (k : Nat) (l : List UInt8), l.count c ≤ k → fil (Lib.splitK [c] 0 k l) = ws c [] l
  | 0, l, h => by
    have hn : c ∉ l := fun hm => by have := List.count_pos_iff.2 hm; omega
    rw [ws_no c l [] hn, List.nil_append]
    exact fil_one l
  | k + 1, l, h => by
    rw [Lib.splitK, Lib.index_one]
    rcases byte_cases l c with e | ⟨o, e⟩
    · rw [e, if_pos (by decide), fil_one, ws_no c l [] (byte_none e)]; rfl
    · obtain ⟨h1, h2, h3⟩ := byte_some e
      rw [e, if_neg (by rw [beq_iff_eq]; omega), Int.toNat_natCast, fil_cons, Nat.add_zero]
      have hc : l.count c = (l.drop (o + 1)).count c + 1 := by
        conv => lhs; rw [h1]
        rw [List.count_append, List.count_eq_zero.2 h2, List.count_cons_self]; omega
      show emit (l.take o) ++ fil (Lib.splitK [c] 0 k (l.drop (o + 1))) = _
      rw [split_fil c k _ (by omega)]
      conv => rhs; rw [h1]
      rw [ws_at c _ _ [] h2]; rfl
theorem cut_upto (l : List UInt8) : (Lib.cut l [35]).1 = upto l := by
  unfold Lib.cut
  rw [Lib.index_one]
  rcases byte_cases l 35 with e | ⟨o, e⟩
  · rw [e, if_neg (by decide)]
    have := byte_none e
    show l = l.takeWhile (· != 35)
    have hp : ∀ x ∈ l, (x != 35) = true := by
      intro x hx
      simp only [bne_iff_ne, ne_eq]
      intro e; subst e; exact this hx
    have q := List.takeWhile_append_of_pos (l₂ := ([] : List UInt8)) hp
    rw [List.append_nil] at q
    rw [q]; simp
  · obtain ⟨h1, h2, h3⟩ := byte_some e
    rw [e, if_pos (by omega), Int.toNat_natCast]
    show l.take o = l.takeWhile (· != 35)
    conv => rhs; rw [h1]
    rw [List.takeWhile_append_of_pos, List.takeWhile_cons, if_neg (by simp), List.append_nil]
    intro x hx
    simp only [bne_iff_ne, ne_eq]
    intro e; subst e; exact h2 hx
/-- A word that may stand between blanks. -/
def Word (w : List UInt8) : Prop := w ≠ [] ∧ (32 : UInt8) ∉ w ∧ (35 : UInt8) ∉ w
theorem emit_word {w : List UInt8} (h : (32 : UInt8) ∉ w ∧ (35 : UInt8) ∉ w) : ∀ x ∈ emit w, Word x := by
  intro x hx
  unfold emit at hx
  split at hx
  · cases hx
  · rename_i hne
    simp only [List.mem_singleton] at hx; subst hx; exact ⟨hne, h⟩
theorem pc_words : ∀ (l now : List UInt8) (h : (32 : UInt8) ∉ now ∧ (35 : UInt8) ∉ now), ∀ x ∈ pc now l, Word x
  | [], now, h => emit_word h
  | x :: r, now, h => by
    rw [pc]
    split
    · exact emit_word h
    · rename_i h35
      split
      · intro y hy
        rcases List.mem_append.1 hy with hy | hy
        · exact emit_word h y hy
        · exact pc_words r [] ⟨by simp, by simp⟩ y hy
      · rename_i h32
        refine pc_words r _ ⟨fun q => ?_, fun q => ?_⟩
        · rcases List.mem_append.1 q with q | q
          · exact h.1 q
          · simp only [List.mem_singleton] at q; exact h32 q.symm
        · rcases List.mem_append.1 q with q | q
          · exact h.2 q
          · simp only [List.mem_singleton] at q; exact h35 q.symm
theorem pc_len : ∀ (l now : List UInt8), ((pc now l).map List.length).sum ≤ now.length + l.length ∧ (pc now l).length ≤ 1 + l.length
  | [], now => by
    unfold pc emit
    split <;> simp
  | x :: r, now => by
    have he : ((emit now).map List.length).sum ≤ now.length ∧ (emit now).length ≤ 1 := by unfold emit; split <;> simp
    rw [pc]
    split
    · simp only [List.length_cons]; omega
    · split
      · have := pc_len r []
        rw [List.map_append, List.sum_append, List.length_append]
        simp only [List.length_cons, List.length_nil] at this ⊢; omega
      · have := pc_len r (now ++ [x])
        simp only [List.length_append, List.length_cons, List.length_nil] at this ⊢; omega
theorem pc_word : ∀ (w now t : List UInt8), (32 : UInt8) ∉ w → (35 : UInt8) ∉ w → pc now (w ++ t) = pc (now ++ w) t
  | [], now, t, _, _ => by simp
  | x :: w, now, t, h1, h2 => by
    have a : ¬ x = 35 := fun e => h2 (by rw [e]; exact List.mem_cons_self)
    have b : ¬ x = 32 := fun e => h1 (by rw [e]; exact List.mem_cons_self)
    rw [List.cons_append, pc, if_neg a, if_neg b, pc_word w _ t (fun q => h1 (List.mem_cons_of_mem _ q)) (fun q => h2 (List.mem_cons_of_mem _ q)), List.append_assoc]; rfl
theorem pc_tail : ∀ (r : List (List UInt8)) (x : List UInt8) (hx : Word x) (hr : ∀ w ∈ r, Word w), pc x (Lib.joinTail [32] r) = x :: r
  | [], x, hx, hr => by
    show emit x = [x]
    unfold emit; rw [if_neg hx.1]
  | y :: r, x, hx, hr => by
    have hy := hr y List.mem_cons_self
    have e : Lib.joinTail [32] (y :: r) = 32 :: (y ++ Lib.joinTail [32] r) := by simp [Lib.joinTail]
    rw [e, pc, if_neg (by decide), if_pos rfl, pc_word y [] _ hy.2.1 hy.2.2, List.nil_append, pc_tail r y hy (fun w hw => hr w (List.mem_cons_of_mem _ hw))]
    unfold emit; rw [if_neg hx.1]; rfl
theorem pc_join (p : List (List UInt8)) (h : ∀ w ∈ p, Word w) : pc [] (Lib.join p [32]) = p := by
  cases p with
  | nil => rfl
  | cons x r =>
    have hx := h x List.mem_cons_self
    rw [Lib.join_cons, pc_word x [] _ hx.2.1 hx.2.2, List.nil_append, pc_tail r x hx (fun w hw => h w (List.mem_cons_of_mem _ hw))]
/-- The line, a word more. -/
theorem joinTail_snoc (r : List (List UInt8)) (y : List UInt8) : Lib.joinTail [32] (r ++ [y]) = Lib.joinTail [32] r ++ 32 :: y := by simp [Lib.joinTail]
theorem join_snoc (r : List (List UInt8)) (y : List UInt8) : Lib.join (r ++ [y]) [32] = if r = [] then y else Lib.join r [32] ++ [32] ++ y := by
  cases r with
  | nil => rw [if_pos rfl]; simp [Lib.join_one]
  | cons x r => rw [if_neg (by simp), List.cons_append, Lib.join_cons, Lib.join_cons, joinTail_snoc]; simp
theorem join_nil_iff (r : List (List UInt8)) (h : ∀ w ∈ r, w ≠ []) : (Lib.join r [32] = []) ↔ r = [] := by
  cases r with
  | nil => exact ⟨fun _ => rfl, fun _ => rfl⟩
  | cons x r =>
    rw [Lib.join_cons]
    have := h x List.mem_cons_self
    simp [this]
theorem join_len (r : List (List UInt8)) : (Lib.join r [32]).length ≤ (r.map List.length).sum + r.length := by
  cases r with
  | nil => exact Nat.le_refl _
  | cons x r =>
    rw [Lib.join_length]
    show 1 * r.length + Lib.lens (x :: r) ≤ _
    have : Lib.lens (x :: r) = ((x :: r).map List.length).sum := rfl
    rw [this, List.length_cons]; omega
end Go.Proofs
