/- OptReads: what any option says, read as each of these, or that it is none, as the document says: of the functions that text F08 prints. Conditions: none. -/
import Derived.Test.YtddglebabaaghaaPureOptWrites
namespace Go.Proofs.YtddglebabaaghaaF08
open Go Zed
set_option linter.unusedVariables false
set_option linter.unusedSimpArgs false

theorem num_in (l : List Int) (hl : l.length ≤ 8) (hb : Bytes l) : 0 ≤ num l ∧ num l < 256 ^ l.length := by
  have gen : ∀ (l : List Int) (x : Int), Bytes l → 0 ≤ x → (x + 1) * 256 ^ l.length ≤ 18446744073709551616 → 0 ≤ l.foldl st x ∧ l.foldl st x < (x + 1) * 256 ^ l.length := by
    intro l
    induction l with
    | nil => intro x _ h0 h1; simp at h1 ⊢; omega
    | cons c l ih =>
      intro x hb h0 h1
      have hc := hb.head
      rw [List.length_cons, Int.pow_succ, Int.mul_comm (256 ^ l.length) 256, ← Int.mul_assoc] at h1
      have hp : 1 ≤ (256 : Int) ^ l.length := Int.pow_pos (by decide)
      have hx : (x + 1) * 256 ≤ 18446744073709551616 := by
        have := Int.mul_le_mul_of_nonneg_left hp (show 0 ≤ (x + 1) * 256 by omega)
        omega
      have e : st x c = x * 256 + c := by unfold st; omega
      rw [List.foldl_cons, e]
      have hm : (x * 256 + c + 1) * 256 ^ l.length ≤ (x + 1) * 256 * 256 ^ l.length := Int.mul_le_mul_of_nonneg_right (by omega) (by omega)
      obtain ⟨i1, i2⟩ := ih (x * 256 + c) hb.tail (by omega) (by omega)
      refine ⟨i1, ?_⟩
      rw [List.length_cons, Int.pow_succ, Int.mul_comm (256 ^ l.length) 256, ← Int.mul_assoc]
      omega
  have hp : (256 : Int) ^ l.length ≤ 256 ^ 8 := by
    have := Nat.pow_le_pow_right (n := 256) (by decide) hl
    have := Int.ofNat_le.2 this
    rw [Int.natCast_pow, Int.natCast_pow] at this
    exact this
  have := gen l 0 hb (by omega) (by rw [show (256 : Int) ^ 8 = 18446744073709551616 by decide] at hp; omega)
  unfold num
  simpa using this

/-- What is read of five sizes, or four. -/
theorem go4 {b : List Int} {a1 a2 a3 a4 : Int} {p : List Int × List Int} (h : go b [a1, a2, a3, a4] = some p) : ∃ x1 x2 x3 x4, p.1 = [x1, x2, x3, x4] := by
  have := (go_len _ _ _ h).2
  match hp : p.1, this with
  | [x1, x2, x3, x4], _ => exact ⟨x1, x2, x3, x4, rfl⟩
theorem go5 {b : List Int} {a1 a2 a3 a4 a5 : Int} {p : List Int × List Int} (h : go b [a1, a2, a3, a4, a5] = some p) : ∃ x1 x2 x3 x4 x5, p.1 = [x1, x2, x3, x4, x5] := by
  have := (go_len _ _ _ h).2
  match hp : p.1, this with
  | [x1, x2, x3, x4, x5], _ => exact ⟨x1, x2, x3, x4, x5, rfl⟩
theorem go_first {b : List Int} {a : Int} {l : List Int} {p : List Int × List Int} (hb : Bytes b) (h : go b (a :: l) = some p) : ∃ r, p.1 = num (b.take a.toNat) :: r ∧ 1 ≤ a ∧ a ≤ 8 ∧ a ≤ b.length := by
  simp only [go] at h
  split at h
  · rename_i hc
    obtain ⟨q, _, rfl⟩ := Option.map_eq_some_iff.1 h
    exact ⟨q.1, rfl, hc.1, hc.2.1, hc.2.2⟩
  · cases h

theorem go_8 (b : List Int) : go b [8] = if 8 ≤ b.length then some ([num (b.take 8)], b.drop 8) else none := by
  simp only [go]
  by_cases h : (8 : Int) ≤ b.length
  · rw [if_pos (by omega), if_pos (by omega)]; rfl
  · rw [if_neg (by omega), if_neg (by omega)]
theorem go_88 (b : List Int) : go b [8, 8] = if 16 ≤ b.length then some ([num (b.take 8), num ((b.drop 8).take 8)], b.drop 16) else none := by
  rw [go, go_8]
  by_cases h : (8 : Int) ≤ b.length
  · rw [if_pos (by omega)]
    by_cases h2 : 16 ≤ b.length
    · rw [if_pos (by simp; omega), if_pos h2]; simp
    · rw [if_neg (by simp; omega), if_neg h2]; rfl
  · rw [if_neg (by omega), if_neg (by omega)]

def pkey (k : Int) (b : List Int) : Bool × Int × Bool × Int :=
  if k = 1 then if b.length = 8 then (true, num (b.take 8), false, 0) else if b.length = 16 then (true, num (b.take 8), true, num ((b.drop 8).take 8)) else (false, 0, false, 0) else (false, 0, false, 0)
theorem pkey_is (k : Int) (b : List Int) (hb : Bytes b) (hl : b.length ≤ 400) : Ev (fun n => f32_opt_ParseKey n k b) (fun r => r = pkey k b) := by
  simp only [f32_opt_ParseKey]
  unfold pkey
  by_cases hk : k = 1
  · subst hk
    rw [if_pos rfl]
    refine Ev.neg (by decide) (Ev.bind (packAll_is b [8] (by omega) hb (by simp)) ?_)
    rintro _ rfl
    rw [go_8]
    by_cases h8 : b.length = 8
    · rw [if_pos (show 8 ≤ b.length by omega), if_pos h8, show b.drop 8 = [] from List.drop_eq_nil_of_le (by omega)]
      simp only [ans, and_self, if_true]
      exact Ev.guard (by simp) (Ev.some rfl)
    · rw [if_neg h8]
      have e1 : (if (ans (if 8 ≤ b.length then some ([num (b.take 8)], b.drop 8) else none)).2.2 = true ∧ (ans (if 8 ≤ b.length then some ([num (b.take 8)], b.drop 8) else none)).2.1 = [] then ((ans (if 8 ≤ b.length then some ([num (b.take 8)], b.drop 8) else none)).1, true) else ([], false)) = ([], false) := by
        by_cases h : 8 ≤ b.length
        · rw [if_pos h, if_neg]
          simp only [ans, true_and]
          intro h2; have := congrArg List.length h2; simp at this; omega
        · rw [if_neg h]; rfl
      rw [e1]
      refine Ev.neg (by decide) (Ev.bind (packAll_is b [8, 8] (by omega) hb (by simp)) ?_)
      rintro _ rfl
      rw [go_88]
      by_cases h16 : b.length = 16
      · rw [if_pos (show 16 ≤ b.length by omega), if_pos h16, show b.drop 16 = [] from List.drop_eq_nil_of_le (by omega)]
        simp only [ans, and_self, if_true]
        exact Ev.neg (by decide) (Ev.guard (by simp) (Ev.guard (by simp) (Ev.some rfl)))
      · rw [if_neg h16]
        refine Ev.pos ?_ (Ev.some rfl)
        by_cases h : 16 ≤ b.length
        · rw [if_pos h, if_neg]
          · rfl
          · simp only [ans, true_and]
            intro h2; have := congrArg List.length h2; simp at this; omega
        · rw [if_neg h]; rfl
  · rw [if_neg hk]
    exact Ev.pos (by simpa using hk) (Ev.some rfl)
theorem refPkey_is (k : Int) (b : List Int) (hb : Bytes b) (hl : b.length ≤ 400) : Ev (fun n => f33_broughamref08_ParseKey n k b) (fun r => r = ((pkey k b).2.1, (pkey k b).2.2.2, (pkey k b).2.2.1, (pkey k b).1)) := by
  simp only [f33_broughamref08_ParseKey]
  unfold pkey
  by_cases hk : k = 1
  · subst hk
    rw [if_pos rfl]
    refine Ev.neg (by decide) (Ev.ite (fun h8 => Ev.ite (fun h16 => ?_) (fun h16 => ?_)) (fun h8 => ?_))
    · have h8' : ¬ b.length = 8 := by simp [bne] at h8; omega
      have h16' : ¬ b.length = 16 := by simp [bne] at h16; omega
      rw [if_neg h8', if_neg h16']
      exact Ev.some rfl
    · have h8' : ¬ b.length = 8 := by simp [bne] at h8; omega
      have h16' : b.length = 16 := by simp [bne] at h16; omega
      rw [if_neg h8', if_pos h16']
      refine Ev.bind (refGet b (by omega) hb 8) ?_
      rintro _ rfl
      rw [if_pos (by omega)]
      refine Ev.bind (refGet _ (by simp; omega) (hb.drop _) 8) ?_
      rintro _ rfl
      rw [if_pos (by simp; omega)]
      exact Ev.some rfl
    · have h8' : b.length = 8 := by simp [bne] at h8; omega
      rw [if_pos h8']
      refine Ev.bind (refGet b (by omega) hb 8) ?_
      rintro _ rfl
      rw [if_pos (by omega)]
      refine Ev.bind (refGet _ (by simp; omega) (hb.drop _) 8) ?_
      rintro _ rfl
      rw [if_neg (by simp; omega)]
      exact Ev.some rfl
  · rw [if_neg hk]
    exact Ev.pos (by simpa using hk) (Ev.some rfl)

def pjoin (k : Int) (b : List Int) : Bool × Int × Int × Int × Bool × Bool × Int :=
  if k = 2 then match go b [4, 4, 1, 1] with
    | some ([x1, x2, x3, x4], r) => if x4 > 1 then (false, 0, 0, 0, false, false, 0) else if r.length = 0 then (true, IntKind.wrap .u32 x1, IntKind.wrap .u32 x2, IntKind.wrap .u8 x3, x4 == 1, false, 0)
      else if r.length = 8 then (true, IntKind.wrap .u32 x1, IntKind.wrap .u32 x2, IntKind.wrap .u8 x3, x4 == 1, true, num (r.take 8)) else (false, 0, 0, 0, false, false, 0)
    | _ => (false, 0, 0, 0, false, false, 0)
  else (false, 0, 0, 0, false, false, 0)
theorem go_bytes : ∀ (l b : List Int) (p : List Int × List Int), go b l = some p → Bytes b → Bytes p.2
  | [], b, p, h, hb => by cases h; exact hb
  | s :: l, b, p, h, hb => by
    simp only [go] at h
    split at h
    · obtain ⟨q, h1, rfl⟩ := Option.map_eq_some_iff.1 h
      exact go_bytes l _ q h1 (hb.drop _)
    · cases h
theorem pjoin_is (k : Int) (b : List Int) (hb : Bytes b) (hl : b.length ≤ 400) : Ev (fun n => f34_opt_ParseJoin n k b) (fun r => r = pjoin k b) := by
  simp only [f34_opt_ParseJoin]
  refine Ev.bind (get_is b [4, 4, 1, 1] (by omega) hb (by simp)) ?_
  rintro _ rfl
  unfold pjoin
  refine Ev.ite (fun h => ?_) (fun h => ?_)
  · have hk : ¬ k = 2 := by simpa [bne] using h
    rw [if_neg hk]; exact Ev.some rfl
  · have hk : k = 2 := by simpa [bne] using h
    rw [if_pos hk]
    cases hg : go b [4, 4, 1, 1] with
    | none => exact Ev.pos rfl (Ev.some rfl)
    | some p =>
      obtain ⟨x1, x2, x3, x4, hp⟩ := go4 hg
      have hB := go_bytes _ _ _ hg hb
      have hL := (go_len _ _ _ hg).1
      obtain ⟨q, r⟩ := p
      dsimp only at hp hB hL
      subst hp
      simp only [ans]
      refine Ev.neg (by decide) (Ev.guard (by simp) (Ev.ite (fun h4 => ?_) (fun h4 => ?_)))
      · have h4' : x4 > 1 := by simpa [List.getD] using h4
        rw [if_pos h4']; exact Ev.some rfl
      · have h4' : ¬ x4 > 1 := by simpa [List.getD] using h4
        rw [if_neg h4']
        refine Ev.guard (by simp) (Ev.guard (by simp) (Ev.guard (by simp) (Ev.guard (by simp) (Ev.ite (fun h0 => ?_) (fun h0 => ?_)))))
        · have h0' : r.length = 0 := by simp at h0; simp [h0]
          rw [if_pos h0']; exact Ev.some rfl
        · have h0' : ¬ r.length = 0 := by simp at h0; simpa using h0
          rw [if_neg h0']
          refine Ev.bind (packAll_is r [8] (by omega) hB (by simp)) ?_
          rintro _ rfl
          rw [go_8]
          by_cases h8 : r.length = 8
          · rw [if_pos (show 8 ≤ r.length by omega), if_pos h8, show r.drop 8 = [] from List.drop_eq_nil_of_le (by omega)]
            simp only [ans, and_self, if_true]
            exact Ev.neg (by decide) (Ev.guard (by simp) (Ev.some rfl))
          · rw [if_neg h8]
            refine Ev.pos ?_ (Ev.some rfl)
            by_cases h : 8 ≤ r.length
            · rw [if_pos h, if_neg]
              · rfl
              · simp only [ans, true_and]
                intro h2; have := congrArg List.length h2; simp at this; omega
            · rw [if_neg h]; rfl
theorem refPjoin_is (k : Int) (b : List Int) (hb : Bytes b) (hl : b.length ≤ 400) : Ev (fun n => f35_broughamref08_ParseJoin n k b) (fun r => r = pjoin k b) := by
  simp only [f35_broughamref08_ParseJoin]
  refine Ev.bind (all_is b [4, 4, 1, 1] (by omega) hb (by simp)) ?_
  rintro _ rfl
  unfold pjoin
  refine Ev.ite (fun h => ?_) (fun h => ?_)
  · have hk : ¬ k = 2 := by simpa [bne] using h
    rw [if_neg hk]; exact Ev.some rfl
  · have hk : k = 2 := by simpa [bne] using h
    rw [if_pos hk]
    cases hg : go b [4, 4, 1, 1] with
    | none => exact Ev.pos rfl (Ev.some rfl)
    | some p =>
      obtain ⟨x1, x2, x3, x4, hp⟩ := go4 hg
      have hB := go_bytes _ _ _ hg hb
      have hL := (go_len _ _ _ hg).1
      obtain ⟨q, r⟩ := p
      dsimp only at hp hB hL
      subst hp
      simp only [ans]
      refine Ev.neg (by decide) (Ev.guard (by simp) (Ev.ite (fun h4 => ?_) (fun h4 => ?_)))
      · have h4' : x4 > 1 := by simpa [List.getD] using h4
        rw [if_pos h4']; exact Ev.some rfl
      · have h4' : ¬ x4 > 1 := by simpa [List.getD] using h4
        rw [if_neg h4']
        refine Ev.ite (fun h0 => Ev.ite (fun h8 => ?_) (fun h8 => ?_)) (fun h0 => ?_)
        · have h0' : ¬ r.length = 0 := by simp [bne] at h0; simpa using h0
          have h8' : ¬ r.length = 8 := by simp [bne] at h8; omega
          rw [if_neg h0', if_neg h8']; exact Ev.some rfl
        · have h0' : ¬ r.length = 0 := by simp [bne] at h0; simpa using h0
          have h8' : r.length = 8 := by simp [bne] at h8; omega
          rw [if_neg h0', if_pos h8']
          refine Ev.guard (by simp) (Ev.guard (by simp) (Ev.guard (by simp) (Ev.guard (by simp) (Ev.bind (refGet r (by omega) hB 8) ?_))))
          rintro _ rfl
          rw [if_pos (by omega)]
          exact Ev.some rfl
        · have h0' : r.length = 0 := by simp [bne] at h0; simp [h0]
          rw [if_pos h0']
          refine Ev.guard (by simp) (Ev.guard (by simp) (Ev.guard (by simp) (Ev.guard (by simp) (Ev.bind (refGet r (by omega) hB 8) ?_))))
          rintro _ rfl
          rw [if_neg (by omega)]
          exact Ev.some rfl

def pdata (k : Int) (b : List Int) : Bool × Bool × Bool × Int × Int × Int × Int :=
  if k = 3 then match go b [1, 8, 8, 4, 8] with
    | some ([x1, x2, x3, x4, x5], []) => if x1 > 3 then (false, false, false, 0, 0, 0, 0) else (true, x1 % 2 == 1, decide (x1 > 1), x2, x3, IntKind.wrap .u32 x4, x5)
    | _ => (false, false, false, 0, 0, 0, 0)
  else (false, false, false, 0, 0, 0, 0)
theorem first_in {b : List Int} {a : Int} {l : List Int} {x : Int} {r : List Int} {q : List Int} (hb : Bytes b) (h : go b (a :: l) = some (x :: r, q)) : 0 ≤ x := by
  obtain ⟨r', h1, h2, h3, h4⟩ := go_first hb h
  simp only [List.cons.injEq] at h1
  rw [h1.1]
  exact (num_in _ (by simp; omega) (hb.take _)).1
theorem pdata_is (k : Int) (b : List Int) (hb : Bytes b) (hl : b.length ≤ 400) : Ev (fun n => f36_opt_ParseData n k b) (fun r => r = pdata k b) := by
  simp only [f36_opt_ParseData]
  refine Ev.bind (packAll_is b [1, 8, 8, 4, 8] (by omega) hb (by simp)) ?_
  rintro _ rfl
  unfold pdata
  refine Ev.ite (fun h => ?_) (fun h => ?_)
  · have hk : ¬ k = 3 := by simpa [bne] using h
    rw [if_neg hk]; exact Ev.some rfl
  · have hk : k = 3 := by simpa [bne] using h
    rw [if_pos hk]
    cases hg : go b [1, 8, 8, 4, 8] with
    | none => exact Ev.pos rfl (Ev.some rfl)
    | some p =>
      obtain ⟨x1, x2, x3, x4, x5, hp⟩ := go5 hg
      obtain ⟨q, r⟩ := p
      dsimp only at hp
      subst hp
      have hx := first_in hb hg
      cases r with
      | cons y ys => exact Ev.pos rfl (Ev.some rfl)
      | nil =>
        simp only [ans, and_self, if_true]
        refine Ev.neg (by decide) (Ev.guard (by simp) (Ev.ite (fun h4 => ?_) (fun h4 => ?_)))
        · have h4' : x1 > 3 := by simpa [List.getD] using h4
          rw [if_pos h4']; exact Ev.some rfl
        · have h4' : ¬ x1 > 3 := by simpa [List.getD] using h4
          rw [if_neg h4']
          refine Ev.guard (by simp) (Ev.guard (by simp) (Ev.guard (by simp) (Ev.guard (by simp) (Ev.guard (by simp) (Ev.guard (by simp) (Ev.some ?_))))))
          show (true, ((bits .and .u64 x1 1) == 1), ((bits .and .u64 x1 2) == 2), x2, x3, IntKind.wrap .u32 x4, x5) = _
          have hc : x1 = 0 ∨ x1 = 1 ∨ x1 = 2 ∨ x1 = 3 := by omega
          rcases hc with rfl | rfl | rfl | rfl <;> rfl
theorem refPdata_is (k : Int) (b : List Int) (hb : Bytes b) (hl : b.length ≤ 400) : Ev (fun n => f37_broughamref08_ParseData n k b) (fun r => r = pdata k b) := by
  simp only [f37_broughamref08_ParseData]
  refine Ev.bind (all_is b [1, 8, 8, 4, 8] (by omega) hb (by simp)) ?_
  rintro _ rfl
  unfold pdata
  refine Ev.ite (fun h => ?_) (fun h => ?_)
  · have hk : ¬ k = 3 := by simpa [bne] using h
    rw [if_neg hk]; exact Ev.some rfl
  · have hk : k = 3 := by simpa [bne] using h
    rw [if_pos hk]
    cases hg : go b [1, 8, 8, 4, 8] with
    | none => exact Ev.pos rfl (Ev.some rfl)
    | some p =>
      obtain ⟨x1, x2, x3, x4, x5, hp⟩ := go5 hg
      obtain ⟨q, r⟩ := p
      dsimp only at hp
      subst hp
      have hx := first_in hb hg
      simp only [ans]
      refine Ev.neg (by decide) (Ev.guard (by simp) (Ev.ite (fun h4 => ?_) (fun h4 => ?_)))
      · have h4' : x1 > 3 := by simpa [List.getD] using h4
        cases r with
        | cons y ys => exact Ev.some rfl
        | nil => dsimp only; rw [if_pos h4']; exact Ev.some rfl
      · have h4' : ¬ x1 > 3 := by simpa [List.getD] using h4
        cases r with
        | cons y ys => exact Ev.pos (by simp; omega) (Ev.some rfl)
        | nil =>
          dsimp only
          rw [if_neg h4']
          refine Ev.neg (by decide) (Ev.guard (by simp) (Ev.guard (by simp) (Ev.guard (by simp) (Ev.guard (by simp) (Ev.guard (by simp) (Ev.guard (by simp) (Ev.some ?_)))))))
          show (true, (Int.tmod x1 2 == 1), decide (x1 > 1), x2, x3, IntKind.wrap .u32 x4, x5) = _
          rw [tmod_e hx]

def pword (k : Int) (b : List Int) : Bool × Int × Int × Int × Int × Bool × Int :=
  if 4 ≤ k ∧ k ≤ 7 then match go b [4, 1, 1, 1, 8] with
    | some ([x1, x2, x3, x4, x5], []) => if x4 > 1 then (false, 0, 0, 0, 0, false, 0) else (true, k, IntKind.wrap .u32 x1, IntKind.wrap .u8 x2, IntKind.wrap .u8 x3, x4 == 1, x5)
    | _ => (false, 0, 0, 0, 0, false, 0)
  else (false, 0, 0, 0, 0, false, 0)
theorem pword_is (k : Int) (b : List Int) (hb : Bytes b) (hl : b.length ≤ 400) : Ev (fun n => f38_opt_ParseWord n k b) (fun r => r = pword k b) := by
  simp only [f38_opt_ParseWord]
  refine Ev.bind (packAll_is b [4, 1, 1, 1, 8] (by omega) hb (by simp)) ?_
  rintro _ rfl
  unfold pword
  refine Ev.ite (fun h => ?_) (fun h => Ev.ite (fun h2 => ?_) (fun h2 => ?_))
  · simp only [decide_eq_true_eq] at h
    rw [if_neg (show ¬ (4 ≤ k ∧ k ≤ 7) by omega)]; exact Ev.some rfl
  · simp only [decide_eq_true_eq] at h h2
    rw [if_neg (show ¬ (4 ≤ k ∧ k ≤ 7) by omega)]; exact Ev.some rfl
  · simp only [decide_eq_true_eq] at h h2
    rw [if_pos (show 4 ≤ k ∧ k ≤ 7 by omega)]
    cases hg : go b [4, 1, 1, 1, 8] with
    | none => exact Ev.pos rfl (Ev.some rfl)
    | some p =>
      obtain ⟨x1, x2, x3, x4, x5, hp⟩ := go5 hg
      obtain ⟨q, r⟩ := p
      dsimp only at hp
      subst hp
      cases r with
      | cons y ys => exact Ev.pos rfl (Ev.some rfl)
      | nil =>
        simp only [ans, and_self, if_true]
        refine Ev.neg (by decide) (Ev.guard (by simp) (Ev.ite (fun h4 => ?_) (fun h4 => ?_)))
        · have h4' : x4 > 1 := by simpa [List.getD] using h4
          rw [if_pos h4']; exact Ev.some rfl
        · have h4' : ¬ x4 > 1 := by simpa [List.getD] using h4
          rw [if_neg h4']
          exact Ev.guard (by simp) (Ev.guard (by simp) (Ev.guard (by simp) (Ev.guard (by simp) (Ev.guard (by simp) (Ev.some rfl)))))
theorem refPword_is (k : Int) (b : List Int) (hb : Bytes b) (hl : b.length ≤ 400) : Ev (fun n => f39_broughamref08_ParseWord n k b) (fun r => r = ((pword k b).1, (pword k b).2.2.1, (pword k b).2.2.2.1, (pword k b).2.2.2.2.1, (pword k b).2.2.2.2.2.1, (pword k b).2.2.2.2.2.2)) := by
  simp only [f39_broughamref08_ParseWord]
  refine Ev.bind (all_is b [4, 1, 1, 1, 8] (by omega) hb (by simp)) ?_
  rintro _ rfl
  unfold pword
  refine Ev.ite (fun h => ?_) (fun h => Ev.ite (fun h2 => ?_) (fun h2 => ?_))
  · simp only [decide_eq_true_eq] at h
    rw [if_neg (show ¬ (4 ≤ k ∧ k ≤ 7) by omega)]; exact Ev.some rfl
  · simp only [decide_eq_true_eq] at h h2
    rw [if_neg (show ¬ (4 ≤ k ∧ k ≤ 7) by omega)]; exact Ev.some rfl
  · simp only [decide_eq_true_eq] at h h2
    rw [if_pos (show 4 ≤ k ∧ k ≤ 7 by omega)]
    cases hg : go b [4, 1, 1, 1, 8] with
    | none => exact Ev.pos rfl (Ev.some rfl)
    | some p =>
      obtain ⟨x1, x2, x3, x4, x5, hp⟩ := go5 hg
      obtain ⟨q, r⟩ := p
      dsimp only at hp
      subst hp
      simp only [ans]
      refine Ev.neg (by decide) (Ev.guard (by simp) (Ev.ite (fun h4 => ?_) (fun h4 => ?_)))
      · have h4' : x4 > 1 := by simpa [List.getD] using h4
        cases r with
        | cons y ys => exact Ev.some rfl
        | nil => dsimp only; rw [if_pos h4']; exact Ev.some rfl
      · have h4' : ¬ x4 > 1 := by simpa [List.getD] using h4
        cases r with
        | cons y ys => exact Ev.pos (by simp; omega) (Ev.some rfl)
        | nil =>
          dsimp only
          rw [if_neg h4']
          exact Ev.neg (by decide) (Ev.guard (by simp) (Ev.guard (by simp) (Ev.guard (by simp) (Ev.guard (by simp) (Ev.guard (by simp) (Ev.some rfl))))))
theorem pword_kind (k : Int) (b : List Int) : ((pword k b).1 = true ∧ (pword k b).2.1 = k) ∨ ((pword k b).1 = false ∧ (pword k b).2.1 = 0) := by
  unfold pword
  split
  · split
    · split
      · exact .inr ⟨rfl, rfl⟩
      · exact .inl ⟨rfl, rfl⟩
    · exact .inr ⟨rfl, rfl⟩
  · exact .inr ⟨rfl, rfl⟩

theorem OptReads (o : Int × List Int) (h : K.ok (.pair (.int .u8) (.slice (.int .u8))) o) : ∃ n, f5_broughamlaw08_OptReads n o.1 o.2 = some true := by
  have hb := ok_bytes h.2
  obtain ⟨k, b⟩ := o
  dsimp only at hb ⊢
  have fin : Ev (fun n => (f19_broughamlaw08_alive n).bind fun r => some r) (fun r => r = true) := Ev.bind alive_is (fun r hr => Ev.some hr)
  apply Ev.true
  simp only [f5_broughamlaw08_OptReads]
  refine Ev.ite (fun _ => Ev.some rfl) fun a1 => ?_
  simp only [gt_iff_lt, decide_eq_true_eq] at a1
  refine Ev.bind (pkey_is k b hb (by omega)) ?_
  rintro _ rfl
  refine Ev.bind (refPkey_is k b hb (by omega)) ?_
  rintro _ rfl
  refine Ev.neg (by simp) (Ev.neg (by simp) (Ev.neg (by simp) (Ev.neg (by simp) (Ev.bind (pjoin_is k b hb (by omega)) ?_))))
  rintro _ rfl
  refine Ev.bind (refPjoin_is k b hb (by omega)) ?_
  rintro _ rfl
  simp only [f25_broughamlaw08_join, Option.bind_some]
  refine Ev.neg (by simp) (Ev.neg (by simp) (Ev.bind (pdata_is k b hb (by omega)) ?_))
  rintro _ rfl
  refine Ev.bind (refPdata_is k b hb (by omega)) ?_
  rintro _ rfl
  simp only [f28_broughamlaw08_data, Option.bind_some]
  refine Ev.neg (by simp) (Ev.neg (by simp) (Ev.bind (pword_is k b hb (by omega)) ?_))
  rintro _ rfl
  refine Ev.bind (refPword_is k b hb (by omega)) ?_
  rintro _ rfl
  simp only [f31_broughamlaw08_word, Option.bind_some]
  refine Ev.pos (by simp) (Ev.pos (by simp) ?_)
  rcases pword_kind k b with ⟨h1, h2⟩ | ⟨h1, h2⟩
  · simp only [h1, h2, Bool.not_true, Bool.false_eq_true, if_false, if_true, beq_self_eq_true]
    exact fin
  · simp only [h1, h2, Bool.not_false, Bool.false_eq_true, if_false, if_true, show ((0 : Int) == 0) = true by decide]
    exact fin
end Go.Proofs.YtddglebabaaghaaF08
