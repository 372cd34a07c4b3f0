/- SegReads: the segment of any bytes, or why they are none, as the document has it: of the functions that text F07 prints. Conditions: none. -/
import Derived.Test.YtddglebabaaghaaPureSegBack
namespace Go.Proofs.YtddglebabaaghaaF07
open Go Zed
set_option linter.unusedVariables false
set_option linter.unusedSimpArgs false

theorem go_prefix : ∀ (l1 l2 b v rest : List Int), go b (l1 ++ l2) = some (v, rest) → ∃ r, go b l1 = some (v.take l1.length, r)
  | [], l2, b, v, rest, h => ⟨b, rfl⟩
  | x :: l1, l2, b, v, rest, h => by
    rw [List.cons_append] at h
    simp only [go] at h ⊢
    split at h
    · rename_i hc
      rw [if_pos hc]
      obtain ⟨p, h1, h2⟩ := Option.map_eq_some_iff.1 h
      obtain ⟨p1, p2⟩ := p
      simp only [Prod.mk.injEq] at h2
      obtain ⟨rfl, rfl⟩ := h2
      obtain ⟨r, h3⟩ := go_prefix l1 l2 _ p1 p2 h1
      exact ⟨r, by rw [h3]; rfl⟩
    · cases h
theorem go6_some {b : List Int} (h : 14 ≤ b.length) : ∃ p, go b [2, 2, 4, 4, 1, 1] = some p := by
  have t2 : Int.toNat 2 = 2 := rfl
  have t4 : Int.toNat 4 = 4 := rfl
  have t1 : Int.toNat 1 = 1 := rfl
  simp only [go]
  rw [if_pos ⟨by decide, by decide, by omega⟩, if_pos ⟨by decide, by decide, by simp only [List.length_drop, t2]; omega⟩, if_pos ⟨by decide, by decide, by simp only [List.length_drop, t2]; omega⟩,
    if_pos ⟨by decide, by decide, by simp only [List.length_drop, t2, t4]; omega⟩, if_pos ⟨by decide, by decide, by simp only [List.length_drop, t2, t4]; omega⟩, if_pos ⟨by decide, by decide, by simp only [List.length_drop, t2, t4, t1]; omega⟩]
  exact ⟨_, rfl⟩

def Rg (b : List Int) (e a : Nat) : List Int := (b.drop a).take (e - a)
theorem Rg_len {b : List Int} {e a : Nat} (he : e ≤ b.length) : (Rg b e a).length = e - a := by unfold Rg; simp; omega
theorem Rg_cons {b : List Int} {e a : Nat} (he : e ≤ b.length) (h : a < e) : Rg b e a = b.getD a 0 :: Rg b e (a + 1) := by
  unfold Rg
  rw [drop_cons (show a < b.length by omega) 0, show e - a = (e - (a + 1)) + 1 by omega, List.take_succ_cons]
theorem Rg_nil {b : List Int} {e : Nat} : Rg b e e = [] := by unfold Rg; simp
theorem Rg_take {b : List Int} {e a c : Nat} (h : a + c ≤ e) : (Rg b e a).take c = (b.take (a + c)).drop a := by
  unfold Rg
  rw [List.take_take, List.drop_take]
  congr 1
  omega
theorem Rg_drop {b : List Int} {e a c : Nat} : (Rg b e a).drop c = Rg b e (a + c) := by
  unfold Rg
  rw [List.drop_take, List.drop_drop]
  congr 1
  omega

theorem refLoop (b : List Int) (hb : Bytes b) (hl : b.length ≤ 3000) (e : Nat) (he : e ≤ b.length) (h14 : 14 ≤ e) (t0 t1 t2 t3 t4 s0 s1 s2 s3 s4 : Int) (f : Nat) : ∀ (a : Nat) (l : List O), a ≤ e → e - a ≤ f → l.length ≤ a →
    Ev (fun n => f48_broughamref07_Parse_L9 n b ((e : Int) - 14) (a : Int) t0 t1 t2 t3 t4 s0 s1 s2 s3 s4 l) (fun r => r = match optsP f (Rg b e a) with | none => .inl (er 71) | some m => .inr (b, (e : Int), t0, t1, t2, t3, t4, s0, s1, s2, s3, s4, l ++ m)) := by
  have e0 : IntKind.wrap .i64 (14 + ((e : Int) - 14)) = (e : Int) := by rw [i64_id] <;> omega
  induction f with
  | zero =>
    intro a l ha hf hll
    obtain rfl : a = e := by omega
    apply Ev.succ
    simp only [f48_broughamref07_Parse_L9]
    rw [e0, Rg_nil, show optsP 0 [] = some [] from rfl]
    exact Ev.neg (by simp) (Ev.some (by simp))
  | succ f ih =>
    intro a l ha hf hll
    apply Ev.succ
    simp only [f48_broughamref07_Parse_L9]
    rw [e0]
    by_cases hae : a = e
    · subst hae
      rw [Rg_nil, show optsP (f + 1) [] = some [] from rfl]
      exact Ev.neg (by simp) (Ev.some (by simp))
    have w1 : IntKind.wrap .i64 ((a : Int) + 1) = ((a + 1 : Nat) : Int) := nx (by omega)
    have w2 : IntKind.wrap .i64 ((a : Int) + 2) = ((a + 2 : Nat) : Int) := by rw [i64_id] <;> omega
    rw [w1, w2, Int.toNat_natCast, Int.toNat_natCast, Int.toNat_natCast]
    have hk := hb.get a
    have hc := hb.get (a + 1)
    refine Ev.pos (by simp; omega) (Ev.ite (fun c1 => Ev.some ?_) fun c1 => ?_)
    · rw [decide_eq_true_eq] at c1
      obtain rfl : e = a + 1 := by omega
      rw [Rg_cons he (by omega), Rg_nil]; rfl
    rw [decide_eq_true_eq] at c1
    rw [Rg_cons he (by omega), Rg_cons he (by omega), optsP, Rg_len he]
    generalize hkk : b.getD a 0 = k at hk
    generalize hcc : b.getD (a + 1) 0 = c at hc
    rw [i64_id (e := c) (by omega) (by omega)]
    obtain ⟨c, rfl⟩ : ∃ j : Nat, c = (j : Int) := ⟨c.toNat, by omega⟩
    have w3 : IntKind.wrap .i64 (((a + 2 : Nat) : Int) + (c : Int)) = ((a + 2 + c : Nat) : Int) := by rw [i64_id] <;> omega
    have w4 : IntKind.wrap .i64 (2 + (c : Int)) = ((2 + c : Nat) : Int) := by rw [i64_id] <;> omega
    have w5 : IntKind.wrap .i64 ((a : Int) + ((2 + c : Nat) : Int)) = ((a + 2 + c : Nat) : Int) := by rw [i64_id] <;> omega
    rw [w3, w4, w5, Int.toNat_natCast]
    refine Ev.guard (by omega) (Ev.ite (fun c2 => Ev.some ?_) fun c2 => Ev.guard (by omega) (Ev.ite (fun c3 => Ev.some ?_) fun c3 => ?_))
    · rw [beq_iff_eq] at c2; rw [if_pos c2]; rfl
    · rw [beq_iff_eq] at c2; rw [decide_eq_true_eq] at c3; rw [if_neg c2, if_pos (by omega)]; rfl
    rw [beq_iff_eq] at c2; rw [decide_eq_true_eq] at c3
    rw [if_neg c2, if_neg (by omega), Int.toNat_natCast, Rg_take (by omega), Rg_drop]
    refine Ev.guard (by omega) (Ev.guard (by omega) (Ev.guard ?_ (Ev.guard ?_ (Ev.guard ?_ ?_))))
    · simp [cutOk]; omega
    · simp only [List.length_drop, List.length_take, List.length_nil, maxLen]; omega
    · simp only [List.length_cons, List.length_nil, maxLen]; omega
    · rw [List.nil_append]
      refine (ih (a + 2 + c) (l ++ [(k, (b.take (a + 2 + c)).drop (a + 2))]) (by omega) (by omega) (by simp only [List.length_append, List.length_cons, List.length_nil]; omega)).mono ?_
      rintro _ rfl
      rw [show a + 1 + 1 + c = a + 2 + c by omega]
      cases optsP f (Rg b e (a + 2 + c)) with
      | none => rfl
      | some m => simp
theorem refParse_is (b : List Int) (hb : Bytes b) (hl : b.length ≤ 3000) : Ev (fun n => f48_broughamref07_Parse n b) (fun r => r = parseOf b) := by
  unfold f48_broughamref07_Parse
  refine Ev.ite (fun c => Ev.some ?_) fun c => ?_
  · rw [decide_eq_true_eq] at c
    unfold parseOf
    rcases go6 hb with g | ⟨x0, x1, x2, x3, x4, x5, rest, g, _, _, _, _, _, _, _, hrl, _⟩
    · rw [g]; rfl
    · omega
  rw [decide_eq_true_eq] at c
  obtain ⟨p, hp⟩ := go6_some (b := b) (by omega)
  rcases go6 hb with g | ⟨x0, x1, x2, x3, x4, x5, rest, g, a0, a1, a2, a3, a4, a5, hr, hrl, hbb, hrest, hx4, hx5⟩
  · rw [g] at hp; cases hp
  unfold parseOf
  rw [g]
  dsimp only
  rw [← hx4, ← hx5, i64_id (e := x5) (by omega) (by omega), i64_id (e := ((b.length : Nat) : Int) - 14) (by omega) (by omega)]
  refine Ev.guard (by omega) (Ev.ite (fun c1 => Ev.some ?_) fun c1 => Ev.guard (by omega) (Ev.ite (fun c2 => Ev.some ?_) fun c2 => Ev.ite (fun c3 => Ev.some ?_) fun c3 => ?_))
  · rw [decide_eq_true_eq] at c1; rw [if_pos c1]; rfl
  · rw [decide_eq_true_eq] at c1 c2; rw [if_neg c1, if_pos c2]; rfl
  · rw [decide_eq_true_eq] at c1 c2 c3; rw [if_neg c1, if_neg c2, if_pos (by omega)]; rfl
  rw [decide_eq_true_eq] at c1 c2 c3
  rw [if_neg c1, if_neg c2, if_neg (by omega)]
  obtain ⟨r4, g4⟩ := go_prefix [2, 2, 4, 4] [1, 1] b _ _ g
  refine Ev.bind (all_is b [2, 2, 4, 4] (by omega) hb (by simp)) ?_
  rw [g4]
  rintro _ rfl
  have y0 : (ans (some (([x0, x1, x2, x3, x4, x5] : List Int).take ([2, 2, 4, 4] : List Int).length, r4))).1.getD 0 0 = x0 := rfl
  have y1 : (ans (some (([x0, x1, x2, x3, x4, x5] : List Int).take ([2, 2, 4, 4] : List Int).length, r4))).1.getD 1 0 = x1 := rfl
  have y2 : (ans (some (([x0, x1, x2, x3, x4, x5] : List Int).take ([2, 2, 4, 4] : List Int).length, r4))).1.getD 2 0 = x2 := rfl
  have y3 : (ans (some (([x0, x1, x2, x3, x4, x5] : List Int).take ([2, 2, 4, 4] : List Int).length, r4))).1.getD 3 0 = x3 := rfl
  rw [y0, y1, y2, y3, u16_id a0.1 a0.2, u16_id a1.1 a1.2, u32_id a2.1 a2.2, u32_id a3.1 a3.2]
  refine Ev.guard ⟨by decide, by simp [ans]⟩ (Ev.guard ⟨by decide, by simp [ans]⟩ (Ev.guard ⟨by decide, by simp [ans]⟩ (Ev.guard ⟨by decide, by simp [ans]⟩ (Ev.guard (by omega) ?_))))
  obtain ⟨m, rfl⟩ : ∃ j : Nat, x5 = (j : Int) := ⟨x5.toNat, by omega⟩
  have hloop := refLoop b hb hl (14 + m) (by omega) (by omega) 0 0 0 0 0 x0 x1 x2 x3 x4 4000 14 [] (by omega) (by omega) (by simp)
  rw [show (((14 + m : Nat) : Int) - 14) = (m : Int) by omega] at hloop
  have hrg : Rg b (14 + m) 14 = rest.take (m : Int).toNat := by
    unfold Rg; rw [hrest, Int.toNat_natCast, show 14 + m - 14 = m by omega]
  rw [hrg] at hloop
  refine Ev.bind hloop ?_
  rintro _ rfl
  cases optsP 4000 (rest.take (m : Int).toNat) with
  | none => exact Ev.some rfl
  | some l =>
    dsimp only
    rw [i64_id (e := ((b.length : Nat) : Int) - ((14 + m : Nat) : Int)) (by omega) (by omega)]
    refine Ev.ite (fun d => Ev.some ?_) fun d => Ev.guard ?_ (Ev.guard ?_ (Ev.some ?_))
    · rw [decide_eq_true_eq] at d; rw [if_pos (by omega)]; rfl
    · simp [cutOk]; omega
    · simp only [List.length_drop, List.length_take, List.length_nil, maxLen]; omega
    · rw [decide_eq_true_eq] at d; rw [if_neg (by omega)]
      rw [List.take_length, Int.toNat_natCast, Int.toNat_natCast, hrest, List.drop_drop]
      rfl
theorem parse_opts {b : List Int} (hb : Bytes b) : (parseOf b).2.2.2.2.2.2.1.length ≤ 1000 := by
  rcases parse_err b with h | h
  · obtain ⟨s0, s1, s2, s3, s4, l, d, e⟩ : ∃ s0 s1 s2 s3 s4 l d, parseOf b = (0, s0, s1, s2, s3, s4, l, d) := ⟨_, _, _, _, _, _, _, by rw [← h]⟩
    rw [e]
    exact (enc_parse hb e).2.2.2.2.2.2.2.1
  · rw [h]; simp [er]
theorem SegReads (b : List Int) (h1 : K.ok (.slice (.int .u8)) b) : ∃ n, f7_broughamlaw07_SegReads n b = some true := by
  have hb := ok_bytes h1
  apply Ev.true
  unfold f7_broughamlaw07_SegReads
  refine Ev.ite (fun _ => Ev.some rfl) fun hl => ?_
  rw [decide_eq_true_eq] at hl
  refine Ev.bind (parse_is b hb (by omega)) ?_
  rintro _ rfl
  refine Ev.bind (refParse_is b hb (by omega)) ?_
  rintro _ rfl
  refine Ev.pos (by rw [beq_iff_eq]) ?_
  refine Ev.bind (same_is _ _ _ _ _ _ _ (parse_opts hb)) ?_
  rintro _ rfl
  exact Ev.pos rfl (Ev.bind alive_ev (fun r hr => Ev.some hr))
end Go.Proofs.YtddglebabaaghaaF07
