/- ReplayPlays: whichever numbers come, each is let through just if the document lets it: of the functions that text F41 prints. Conditions: none. -/
import Derived.Test.YtdcnjkjgmagjmaaPureOnes
import Derived.Test.YtdcnjkjgmagjmaaPureReplayOnce
namespace Go.Proofs.YtdcnjkjgmagjmaaF41
open Go Zed
set_option linter.unusedVariables false
set_option linter.unusedSimpArgs false

/-! Sums. -/
def cnt (g : Nat → Bool) : Nat → Nat
  | 0 => 0
  | k + 1 => cnt g k + (g k).toNat
theorem cnt_congr {g h : Nat → Bool} : ∀ (k : Nat), (∀ i, i < k → g i = h i) → cnt g k = cnt h k
  | 0, _ => rfl
  | k + 1, e => by rw [cnt, cnt, cnt_congr k (fun i hi => e i (by omega)), e k (by omega)]
theorem cnt_head (g : Nat → Bool) : ∀ (k : Nat), cnt g (k + 1) = (g 0).toNat + cnt (fun i => g (i + 1)) k
  | 0 => by simp [cnt]
  | k + 1 => by rw [cnt, cnt_head g k, cnt]; omega
theorem cnt_rev (g : Nat → Bool) : ∀ (k : Nat), cnt (fun i => g (k - 1 - i)) k = cnt g k
  | 0 => rfl
  | k + 1 => by
    rw [cnt_head, cnt]
    have : cnt (fun i => g (k + 1 - 1 - (i + 1))) k = cnt g k := by
      rw [← cnt_rev g k]
      exact cnt_congr k (fun i hi => by congr 1; omega)
    rw [this, show k + 1 - 1 - 0 = k by omega]
    omega
theorem cnt_false {g : Nat → Bool} (a : Nat) : ∀ (k : Nat), (∀ i, a ≤ i → i < a + k → g i = false) → cnt g (a + k) = cnt g a
  | 0, _ => rfl
  | k + 1, h => by rw [← Nat.add_assoc, cnt, cnt_false a k (fun i h1 h2 => h i h1 (by omega)), h (a + k) (by omega) (by omega)]; rfl
theorem cnt_le (g : Nat → Bool) : ∀ k, cnt g k ≤ k
  | 0 => Nat.le_refl _
  | k + 1 => by have := cnt_le g k; have : (g k).toNat ≤ 1 := Bool.toNat_le _; rw [cnt]; omega
/-- Once round, from wherever. -/
theorem cnt_round (g : Nat → Bool) : ∀ (d : Nat), cnt (fun i => g ((255 + d - i) % 256)) 256 = cnt g 256
  | 0 => by
    rw [← cnt_rev g 256]
    exact cnt_congr 256 (fun i hi => by congr 1; omega)
  | d + 1 => by
    rw [← cnt_round g d]
    have h1 := cnt_head (fun i => g ((255 + (d + 1) - i) % 256)) 255
    have h2 : cnt (fun i => g ((255 + d - i) % 256)) (255 + 1) = cnt (fun i => g ((255 + d - i) % 256)) 255 + (g ((255 + d - 255) % 256)).toNat := rfl
    have h3 : cnt (fun i => g ((255 + (d + 1) - (i + 1)) % 256)) 255 = cnt (fun i => g ((255 + d - i) % 256)) 255 :=
      cnt_congr 255 (fun i hi => by rw [show 255 + (d + 1) - (i + 1) = 255 + d - i by omega])
    have h4 : (255 + (d + 1) - 0) % 256 = (255 + d - 255) % 256 := by omega
    have h5 : cnt (fun i => g ((255 + (d + 1) - i) % 256)) 256 = (g ((255 + (d + 1) - 0) % 256)).toNat + cnt (fun i => g ((255 + (d + 1) - (i + 1)) % 256)) 255 := h1
    have h6 : cnt (fun i => g ((255 + d - i) % 256)) 256 = cnt (fun i => g ((255 + d - i) % 256)) 255 + (g ((255 + d - 255) % 256)).toNat := h2
    rw [h5, h6, h3, h4]
    omega
theorem cnt_word {a : Nat} {f : Nat → Bool} (base : Nat) (h : ∀ j, j < 64 → a.testBit j = f (base + j)) : ∀ k, k ≤ 64 → cnt f (base + k) = cnt f base + ones k a
  | 0, _ => rfl
  | k + 1, hk => by rw [← Nat.add_assoc, cnt, cnt_word base h k (by omega), ones, h k (by omega)]; omega

theorem many_is {w : Ws} {f : Nat → Bool} (h : Rep w f) (any : Bool) (top : Int) : Ev (fun n => f38_replay_Window_Many n any top w.1 w.2.1 w.2.2.1 w.2.2.2) (fun r => r = (((cnt f 256 : Nat) : Int), any, top, w.1, w.2.1, w.2.2.1, w.2.2.2)) := by
  have loop : ∀ (d i : Nat), i + d = 4 → Ev (fun n => f38_replay_Window_Many_L3 n ((cnt f (i * 64) : Nat) : Int) w.1 w.2.1 w.2.2.1 w.2.2.2 (i : Int) any top w.1 w.2.1 w.2.2.1 w.2.2.2) (fun r => r = (((cnt f 256 : Nat) : Int), any, top, w.1, w.2.1, w.2.2.1, w.2.2.2)) := by
    intro d
    induction d with
    | zero =>
      intro i hi
      apply Ev.succ
      simp only [f38_replay_Window_Many_L3]
      refine Ev.neg (by simp; omega) (Ev.some ?_)
      rw [show i * 64 = 256 by omega]
    | succ d ih =>
      intro i hi
      apply Ev.succ
      simp only [f38_replay_Window_Many_L3]
      obtain ⟨a, ha, he, hb⟩ := h i (by omega)
      unfold wat at he
      rw [Int.toNat_natCast, he, nx (by omega)]
      refine Ev.pos (by simp; omega) (Ev.guard (by omega) ?_)
      refine Ev.bind (Ev.of (ones_is a ha) rfl) ?_
      rintro _ rfl
      have hc := cnt_word (i * 64) hb 64 (Nat.le_refl _)
      have hle := cnt_le f (i * 64 + 64)
      have e : IntKind.wrap .i64 (((cnt f (i * 64) : Nat) : Int) + ((ones 64 a : Nat) : Int)) = ((cnt f ((i + 1) * 64) : Nat) : Int) := by
        rw [show (i + 1) * 64 = i * 64 + 64 by omega, i64_id (by omega) (by omega), hc]
        omega
      rw [e]
      exact ih (i + 1) (by omega)
  simp only [f38_replay_Window_Many]
  refine Ev.bind (loop 4 0 (by omega)) ?_
  rintro _ rfl
  exact Ev.some rfl

/-! The document's. -/
theorem hasLoop (l : List Int) (hl : l.length ≤ 1000) (x : Int) : ∀ (d i : Nat), i + d = l.length → Ev (fun n => f77_broughamref41_has_L2 n l x (i : Int)) (fun r => r = if x ∈ l.drop i then .inl true else .inr ())
  | 0, i, hi => by
    apply Ev.succ
    simp only [f77_broughamref41_has_L2]
    rw [List.drop_eq_nil_of_le (by omega), if_neg (by simp)]
    exact Ev.neg (by simp; omega) (Ev.some rfl)
  | d + 1, i, hi => by
    apply Ev.succ
    simp only [f77_broughamref41_has_L2]
    rw [Int.toNat_natCast, nx (by omega), drop_cons (show i < l.length by omega) 0]
    refine Ev.pos (by simp; omega) (Ev.guard (by omega) (Ev.ite (fun h => ?_) fun h => ?_))
    · rw [beq_iff_eq] at h
      rw [if_pos (by rw [h]; exact List.mem_cons_self)]
      exact Ev.some rfl
    · rw [beq_iff_eq] at h
      refine (hasLoop l hl x d (i + 1) (by omega)).mono ?_
      rintro _ rfl
      by_cases hx : x ∈ l.drop (i + 1)
      · rw [if_pos hx, if_pos (List.mem_cons_of_mem _ hx)]
      · rw [if_neg hx, if_neg (fun q => by rcases List.mem_cons.1 q with q | q; exact h q.symm; exact hx q)]
theorem has_is (l : List Int) (hl : l.length ≤ 1000) (x : Int) : Ev (fun n => f77_broughamref41_has n l x) (fun r => r = decide (x ∈ l)) := by
  simp only [f77_broughamref41_has]
  refine Ev.bind (hasLoop l hl x l.length 0 (by omega)) ?_
  rw [List.drop_zero]
  rintro _ rfl
  by_cases hx : x ∈ l
  · rw [if_pos hx, decide_eq_true hx]; exact Ev.some rfl
  · rw [if_neg hx, decide_eq_false hx]; exact Ev.some rfl
theorem topLoop (l : List Int) (hl : l.length ≤ 1000) : ∀ (d i : Nat), i + d = l.length → ∀ (m : Int), Ev (fun n => f76_broughamref41_top_L3 n l m (i : Int)) (fun r => ∃ t, r = (l, t) ∧ m ≤ t ∧ (∀ x ∈ l.drop i, x ≤ t) ∧ (t = m ∨ t ∈ l.drop i))
  | 0, i, hi, m => by
    apply Ev.succ
    simp only [f76_broughamref41_top_L3]
    rw [List.drop_eq_nil_of_le (by omega)]
    exact Ev.neg (by simp; omega) (Ev.some ⟨m, rfl, Int.le_refl _, by simp, .inl rfl⟩)
  | d + 1, i, hi, m => by
    apply Ev.succ
    simp only [f76_broughamref41_top_L3]
    rw [Int.toNat_natCast, nx (by omega), drop_cons (show i < l.length by omega) 0]
    refine Ev.pos (by simp; omega) (Ev.guard (by omega) (Ev.ite (fun h => Ev.guard (by omega) ?_) fun h => ?_))
    · have h := of_decide_eq_true h
      refine (topLoop l hl d (i + 1) (by omega) (l.getD i 0)).mono ?_
      rintro _ ⟨t, rfl, h1, h2, h3⟩
      refine ⟨t, rfl, by omega, fun x hx => ?_, .inr ?_⟩
      · rcases List.mem_cons.1 hx with rfl | hx
        · exact h1
        · exact h2 x hx
      · rcases h3 with h3 | h3
        · rw [h3]; exact List.mem_cons_self
        · exact List.mem_cons_of_mem _ h3
    · have h : ¬ l.getD i 0 > m := fun q => h (decide_eq_true q)
      refine (topLoop l hl d (i + 1) (by omega) m).mono ?_
      rintro _ ⟨t, rfl, h1, h2, h3⟩
      refine ⟨t, rfl, h1, fun x hx => ?_, h3.imp id (fun q => List.mem_cons_of_mem _ q)⟩
      rcases List.mem_cons.1 hx with rfl | hx
      · omega
      · exact h2 x hx
theorem any_is {S : List Int} {any : Bool} {top : Nat} {w : Ws} (h : J S any top w) : decide (((S.length : Nat) : Int) > 0) = any := by
  cases any with
  | false => rw [(h.none rfl).1]; rfl
  | true =>
    have := List.length_pos_of_mem (h.mem rfl)
    exact decide_eq_true (by omega)
theorem top_is {S : List Int} {any : Bool} {top : Nat} {w : Ws} (h : J S any top w) (hl : S.length ≤ 1000) : Ev (fun n => f76_broughamref41_top n S) (fun r => r = ((top : Int), any)) := by
  simp only [f76_broughamref41_top]
  refine Ev.bind (topLoop S hl S.length 0 (by omega) 0) ?_
  rw [List.drop_zero]
  rintro _ ⟨t, rfl, h1, h2, h3⟩
  refine Ev.some ?_
  dsimp only
  rw [any_is h]
  congr 1
  cases any with
  | false =>
    obtain ⟨e1, e2⟩ := h.none rfl
    rcases h3 with h3 | h3
    · omega
    · rw [e1] at h3; cases h3
  | true =>
    have := h2 _ (h.mem rfl)
    rcases h3 with h3 | h3
    · omega
    · have := (h.le _ h3).2; omega
theorem refFresh_is {S : List Int} {any : Bool} {top : Nat} {w : Ws} (h : J S any top w) (hl : S.length ≤ 1000) {x : Int} (hx : 0 ≤ x) : Ev (fun n => f33_broughamref41_Fresh n S x) (fun r => r = fresh S any top x) := by
  simp only [f33_broughamref41_Fresh]
  refine Ev.bind (top_is h hl) ?_
  rintro _ rfl
  dsimp only
  unfold fresh
  have ht := h.tlt
  cases any with
  | false => exact Ev.pos rfl (Ev.some rfl)
  | true =>
    refine Ev.neg (by simp) (Ev.ite (fun a => Ev.some ?_) fun a => ?_)
    · rw [a]; rfl
    · have a1 : ¬ x > (top : Int) := fun q => a (decide_eq_true q)
      rw [decide_eq_false a1, u64_id (by omega) (by omega)]
      refine Ev.ite (fun b => ?_) fun b => Ev.some ?_
      · have b := of_decide_eq_true b
        rw [decide_eq_true (show (top : Int) < x + 256 by omega)]
        refine Ev.bind (has_is S hl x) ?_
        rintro _ rfl
        exact Ev.some (by simp)
      · have b1 : ¬ (top : Int) - x < 256 := fun q => b (decide_eq_true q)
        rw [decide_eq_false (show ¬ (top : Int) < x + 256 by omega)]; rfl
def came (S : List Int) (t : Nat) : Nat → Nat := cnt (fun i => decide (((t - i : Nat) : Int) ∈ S))
theorem manyLoop (S : List Int) (hl : S.length ≤ 1000) (t : Nat) (ht : t < 18446744073709551616) : ∀ (d i : Nat), i + d = min 256 (t + 1) → Ev (fun n => f37_broughamref41_Many_L4 n S (t : Int) true ((came S t i : Nat) : Int) ((i - came S t i : Nat) : Int) (i : Int)) (fun r => r = (((came S t (min 256 (t + 1)) : Nat) : Int), ((min 256 (t + 1) - came S t (min 256 (t + 1)) : Nat) : Int)))
  | 0, i, hi => by
    apply Ev.succ
    simp only [f37_broughamref41_Many_L4]
    rw [← hi, Nat.add_zero]
    refine Ev.pos trivial (Ev.ite (fun a => Ev.neg (by have := of_decide_eq_true a; simp; omega) (Ev.some rfl)) fun a => Ev.some rfl)
  | d + 1, i, hi => by
    apply Ev.succ
    simp only [f37_broughamref41_Many_L4]
    refine Ev.pos trivial (Ev.pos (by simp; omega) (Ev.pos (by simp; omega) ?_))
    have e1 : IntKind.wrap .u64 ((t : Int) - (i : Int)) = ((t - i : Nat) : Int) := by rw [u64_id (by omega) (by omega)]; omega
    have e2 : IntKind.wrap .u64 ((i : Int) + 1) = ((i + 1 : Nat) : Int) := by rw [u64_id] <;> omega
    rw [e1, e2]
    refine Ev.bind (has_is S hl _) ?_
    rintro _ rfl
    have hle : came S t i ≤ i := cnt_le _ i
    have ih := manyLoop S hl t ht d (i + 1) (by omega)
    refine Ev.ite (fun a => ?_) fun a => ?_
    · have hc : came S t (i + 1) = came S t i + 1 := by
        have : came S t (i + 1) = came S t i + (decide (((t - i : Nat) : Int) ∈ S)).toNat := rfl
        rw [this, a]; rfl
      rw [hc] at ih
      rw [show IntKind.wrap .i64 (((came S t i : Nat) : Int) + 1) = ((came S t i + 1 : Nat) : Int) from nx (by omega)]
      rw [show i + 1 - (came S t i + 1) = i - came S t i by omega] at ih
      exact ih
    · have a : decide (((t - i : Nat) : Int) ∈ S) = false := by simpa using a
      have hc : came S t (i + 1) = came S t i := by
        have : came S t (i + 1) = came S t i + (decide (((t - i : Nat) : Int) ∈ S)).toNat := rfl
        rw [this, a]; rfl
      rw [hc] at ih
      rw [show IntKind.wrap .i64 (((i - came S t i : Nat) : Int) + 1) = ((i - came S t i + 1 : Nat) : Int) from nx (by omega)]
      rw [show i + 1 - came S t i = i - came S t i + 1 by omega] at ih
      exact ih
theorem came_is {S : List Int} {top : Nat} {f : Nat → Bool} (h1 : ∀ n, n ≤ top → top < n + 256 → (f (n % 256) = true ↔ (n : Int) ∈ S)) (h2 : ∀ k, top < k → k < 256 → f k = false) : came S top (min 256 (top + 1)) = cnt f 256 := by
  have e : came S top (min 256 (top + 1)) = cnt (fun i => f ((top - i) % 256)) (min 256 (top + 1)) := by
    refine cnt_congr _ (fun i hi => ?_)
    have := h1 (top - i) (by omega) (by omega)
    rw [Bool.eq_iff_iff, decide_eq_true_eq]
    exact this.symm
  rw [e]
  by_cases ht : 255 ≤ top
  · rw [Nat.min_eq_left (by omega), ← cnt_round f (top - 255)]
    refine cnt_congr 256 (fun i hi => ?_)
    show f ((top - i) % 256) = f ((255 + (top - 255) - i) % 256)
    rw [show 255 + (top - 255) = top by omega]
  · rw [Nat.min_eq_right (by omega)]
    have : cnt (fun i => f ((top - i) % 256)) (top + 1) = cnt f (top + 1) := by
      rw [← cnt_rev f (top + 1)]
      refine cnt_congr _ (fun i hi => ?_)
      show f ((top - i) % 256) = f (top + 1 - 1 - i)
      rw [show top + 1 - 1 - i = top - i by omega, Nat.mod_eq_of_lt (by omega)]
    rw [this]
    have := cnt_false (g := f) (top + 1) (255 - top) (fun i h3 h4 => h2 i (by omega) (by omega))
    rw [show top + 1 + (255 - top) = 256 by omega] at this
    exact this.symm
theorem refMany_is {S : List Int} {top : Nat} {w : Ws} (h : J S true top w) (hl : S.length ≤ 1000) {f : Nat → Bool} (hr : (∀ n, n ≤ top → top < n + 256 → (f (n % 256) = true ↔ (n : Int) ∈ S)) ∧ ∀ k, top < k → k < 256 → f k = false) :
    Ev (fun n => f37_broughamref41_Many n S) (fun r => r = (((cnt f 256 : Nat) : Int), ((min 256 (top + 1) - cnt f 256 : Nat) : Int))) := by
  simp only [f37_broughamref41_Many]
  refine Ev.bind (top_is h hl) ?_
  rintro _ rfl
  have hc := came_is hr.1 hr.2
  have := manyLoop S hl top h.tlt (min 256 (top + 1)) 0 (by omega)
  refine Ev.bind this ?_
  rintro _ rfl
  refine Ev.some ?_
  rw [hc]
theorem missing_is {w : Ws} {f : Nat → Bool} (h : Rep w f) (top : Nat) (ht : top < 18446744073709551616) (hle : cnt f 256 ≤ min 256 (top + 1)) : Ev (fun n => f39_replay_Window_Missing n true (top : Int) w.1 w.2.1 w.2.2.1 w.2.2.2) (fun r => r = (((min 256 (top + 1) - cnt f 256 : Nat) : Int), true, (top : Int), w.1, w.2.1, w.2.2.1, w.2.2.2)) := by
  simp only [f39_replay_Window_Missing]
  refine Ev.neg (by simp) (Ev.ite (fun a => ?_) fun a => ?_)
  · have a := of_decide_eq_true a
    refine Ev.bind (many_is h true (top : Int)) ?_
    rintro _ rfl
    refine Ev.some ?_
    dsimp only
    generalize cnt f 256 = c at hle ⊢
    have e : (top : Int) + 1 - (c : Int) = ((min 256 (top + 1) - c : Nat) : Int) := by rw [Nat.min_eq_right (by omega)]; omega
    rw [i64_id (show -9223372036854775808 ≤ (top : Int) by omega) (by omega), i64_id (show -9223372036854775808 ≤ (top : Int) + 1 by omega) (by omega), i64_id (by omega) (by omega), e]
  · have a : ¬ (top : Int) < 255 := fun q => a (decide_eq_true q)
    refine Ev.bind (many_is h true (top : Int)) ?_
    rintro _ rfl
    refine Ev.some ?_
    dsimp only
    generalize cnt f 256 = c at hle ⊢
    have e : (256 : Int) - (c : Int) = ((min 256 (top + 1) - c : Nat) : Int) := by rw [Nat.min_eq_left (by omega)]; omega
    rw [i64_id (by omega) (by omega), e]

/-- What is asked behind each number. -/
def asked (n : Nat) (l : List Int) (x : Int) (S : List Int) (i : Int) (any : Bool) (t w2 w3 w4 w5 : Int) : Option (Bool ⊕ Unit) :=
            (f35_replay_Window_Top any t w2 w3 w4 w5).bind fun r224_0 =>
            (f36_broughamref41_Top n S).bind fun r225_0 =>
            (f37_broughamref41_Many n S).bind fun r226_0 =>
            if ((r224_0.1 : Int) != r225_0.1) = true then
              some (.inl false)
            else
              if (!(r224_0.2.1 == r225_0.2)) = true then
                some (.inl false)
              else
                (f38_replay_Window_Many n r224_0.2.2.1 r224_0.2.2.2.1 r224_0.2.2.2.2.1 r224_0.2.2.2.2.2.1 r224_0.2.2.2.2.2.2.1 r224_0.2.2.2.2.2.2.2).bind fun r227_0 =>
                if ((r227_0.1 : Int) != r226_0.1) = true then
                  some (.inl false)
                else
                  (f39_replay_Window_Missing n r227_0.2.1 r227_0.2.2.1 r227_0.2.2.2.1 r227_0.2.2.2.2.1 r227_0.2.2.2.2.2.1 r227_0.2.2.2.2.2.2).bind fun r227_1 =>
                  if ((r227_1.1 : Int) != r226_0.2) = true then
                    some (.inl false)
                  else
                    (f34_replay_Window_Fresh x r227_1.2.1 r227_1.2.2.1 r227_1.2.2.2.1 r227_1.2.2.2.2.1 r227_1.2.2.2.2.2.1 r227_1.2.2.2.2.2.2).bind fun r227_2 =>
                    (f33_broughamref41_Fresh n S x).bind fun r227_3 =>
                    if (!(r227_2.1 == r227_3)) = true then
                      some (.inl false)
                    else
                      f9_broughamlaw41_ReplayPlays_L6 n l x S i r227_2.2.1 r227_2.2.2.1 r227_2.2.2.2.1 r227_2.2.2.2.2.1 r227_2.2.2.2.2.2.1 r227_2.2.2.2.2.2.2
theorem asked_is (l : List Int) (x : Int) (hx : 0 ≤ x) {S : List Int} {top : Nat} {w : Ws} (h : J S true top w) (hl : S.length ≤ 1000) (i : Int) {Q : Bool ⊕ Unit → Prop} (next : Ev (fun n => f9_broughamlaw41_ReplayPlays_L6 n l x S i true (top : Int) w.1 w.2.1 w.2.2.1 w.2.2.2) Q) :
    Ev (fun n => asked n l x S i true (top : Int) w.1 w.2.1 w.2.2.1 w.2.2.2) Q := by
  obtain ⟨f, hr, hm⟩ := h.marks
  have hm := hm rfl
  have hc := came_is hm.1 hm.2
  have hle : cnt f 256 ≤ min 256 (top + 1) := by rw [← hc]; exact cnt_le _ _
  simp only [asked, f35_replay_Window_Top, f36_broughamref41_Top]
  refine Ev.bind (P := fun r => r = ((top : Int), true)) (Ev.bind (top_is h hl) (fun r hr => Ev.some (by rw [hr]))) ?_
  rintro _ rfl
  refine Ev.bind (refMany_is h hl hm) ?_
  rintro _ rfl
  refine Ev.neg (by simp) (Ev.neg (by simp) ?_)
  refine Ev.bind (many_is hr true (top : Int)) ?_
  rintro _ rfl
  refine Ev.neg (by simp) ?_
  refine Ev.bind (missing_is hr top h.tlt hle) ?_
  rintro _ rfl
  refine Ev.neg (by simp) ?_
  refine Ev.bind (Ev.of (fresh_is h hx) rfl) ?_
  rintro _ rfl
  refine Ev.bind (refFresh_is h hl hx) ?_
  rintro _ rfl
  exact Ev.neg (by simp) next

theorem playLoop (l : List Int) (hl : l.length ≤ 150) (hr : ∀ x ∈ l, 0 ≤ x ∧ x < 18446744073709551616) (x : Int) (hx : 0 ≤ x) : ∀ (d i : Nat), i + d = l.length → ∀ (S : List Int) (any : Bool) (top : Nat) (w : Ws), J S any top w → S.length ≤ i →
    Ev (fun n => f9_broughamlaw41_ReplayPlays_L6 n l x S (i : Int) any (top : Int) w.1 w.2.1 w.2.2.1 w.2.2.2) (fun r => r = .inr ())
  | 0, i, hi, S, any, top, w, hJ, hSl => by
    apply Ev.succ
    simp only [f9_broughamlaw41_ReplayPlays_L6]
    exact Ev.neg (by simp; omega) (Ev.some rfl)
  | d + 1, i, hi, S, any, top, w, hJ, hSl => by
    have hlt : i < l.length := by omega
    have hn := hr _ (getD_mem hlt 0)
    apply Ev.succ
    simp only [f9_broughamlaw41_ReplayPlays_L6]
    rw [Int.toNat_natCast, nx (by omega)]
    generalize l.getD i 0 = y at hn
    refine Ev.pos (by simp; omega) (Ev.guard (by omega) ?_)
    refine Ev.bind (refFresh_is hJ (by omega) hn.1) ?_
    rintro _ rfl
    refine Ev.guard (by omega) ?_
    refine Ev.bind (Ev.of (fresh_is hJ hn.1) rfl) ?_
    rintro _ rfl
    refine Ev.neg (by simp) (Ev.guard (by omega) ?_)
    obtain ⟨any', top', w', hJ', hev⟩ := take_is hJ hn
    refine Ev.bind hev ?_
    rintro _ rfl
    refine Ev.neg (by simp) ?_
    by_cases hf : fresh S any top y = true
    · rw [if_pos hf] at hJ'
      have hany : any' = true := by
        cases any' with
        | true => rfl
        | false => have := (hJ'.none rfl).1; simp at this
      subst hany
      refine Ev.pos hf (Ev.guard (by omega) (Ev.guard (by simp only [List.length_singleton, maxLen]; omega) ?_))
      exact asked_is l x hx hJ' (by simp; omega) _ (playLoop l hl hr x hx d (i + 1) (by omega) _ true top' w' hJ' (by simp; omega))
    · rw [if_neg hf] at hJ'
      have hany : any' = true := by
        cases any' with
        | true => rfl
        | false =>
          have h1 := (hJ'.none rfl).1
          cases any with
          | false => exact absurd rfl hf
          | true => have := hJ.mem rfl; rw [h1] at this; cases this
      subst hany
      refine Ev.neg hf ?_
      exact asked_is l x hx hJ' (by omega) _ (playLoop l hl hr x hx d (i + 1) (by omega) _ true top' w' hJ' (by omega))

theorem ReplayPlays (l : List Int) (h0 : K.ok (.slice (.int .u64)) l) (x : Int) (h1 : K.ok (.int .u64) x) : ∃ n, f9_broughamlaw41_ReplayPlays n l x = some true := by
  apply Ev.true
  unfold f9_broughamlaw41_ReplayPlays
  refine Ev.ite (fun _ => Ev.some rfl) fun a => ?_
  simp only [decide_eq_true_eq] at a
  refine Ev.bind (playLoop l (by omega) (fun x hx => ok_u64 (h0.2 x hx)) x (ok_u64 h1).1 l.length 0 (by omega) [] false 0 (0, 0, 0, 0) j_zero (by simp)) ?_
  rintro _ rfl
  exact Ev.bind alive_ev (fun r hr => Ev.some hr)
end Go.Proofs.YtdcnjkjgmagjmaaF41
