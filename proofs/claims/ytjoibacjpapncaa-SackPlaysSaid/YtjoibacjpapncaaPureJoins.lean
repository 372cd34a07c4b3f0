/- Pieces joined: what both ways of joining leave. Of the functions that text F31b prints. -/
import Derived.Test.YtjoibacjpapncaaPurePack31b
namespace Go.Proofs.YtjoibacjpapncaaF31b
open Go Zed
set_option linter.unusedVariables false
set_option linter.unusedSimpArgs false

abbrev B : Int := 1048576
/-- Pieces that rise, and don't touch, above a number. -/
def Ch : Int → Bl → Prop
  | _, [] => True
  | lo, p :: r => lo < p.1 ∧ p.1 < p.2 ∧ p.2 ≤ B ∧ Ch p.2 r
theorem Ch.weak {lo lo' : Int} (h : lo' ≤ lo) : ∀ {l : Bl}, Ch lo l → Ch lo' l
  | [], _ => trivial
  | p :: r, ⟨a, b, c, d⟩ => ⟨by omega, b, c, d⟩
theorem Ch.mem {lo : Int} : ∀ {l : Bl}, Ch lo l → ∀ p ∈ l, lo < p.1 ∧ p.1 < p.2 ∧ p.2 ≤ B
  | q :: r, ⟨a, b, c, d⟩, p, hp => by
    rcases List.mem_cons.1 hp with rfl | hp
    · exact ⟨a, b, c⟩
    · have := Ch.mem d p hp; exact ⟨by omega, this.2⟩
def jn : Int → Int → Bl → Bl
  | a, b, [] => [(a, b)]
  | a, b, p :: r => if p.2 < a then p :: jn a b r else if b < p.1 then (a, b) :: p :: r else jn (if p.1 < a then p.1 else a) (if b < p.2 then p.2 else b) r
theorem jn_len : ∀ (l : Bl) (a b : Int), (jn a b l).length ≤ l.length + 1
  | [], _, _ => by simp [jn]
  | p :: r, a, b => by
    rw [jn]
    split
    · have := jn_len r a b; simp only [List.length_cons]; omega
    · split
      · simp
      · have := jn_len r (if p.1 < a then p.1 else a) (if b < p.2 then p.2 else b); simp only [List.length_cons]; omega
theorem jn_ne (l : Bl) (a b : Int) : jn a b l ≠ [] := by
  induction l generalizing a b with
  | nil => simp [jn]
  | cons p r ih =>
    rw [jn]; split
    · simp
    · split
      · simp
      · exact ih _ _
theorem jn_ch : ∀ (l : Bl) (lo a b : Int), lo < a → a < b → b ≤ B → Ch lo l → Ch lo (jn a b l)
  | [], lo, a, b, h1, h2, h3, _ => ⟨h1, h2, h3, trivial⟩
  | p :: r, lo, a, b, h1, h2, h3, ⟨c1, c2, c3, c4⟩ => by
    rw [jn]
    split
    · rename_i h
      exact ⟨c1, c2, c3, jn_ch r p.2 a b h h2 h3 c4⟩
    · split
      · rename_i h
        exact ⟨h1, h2, h3, h, c2, c3, c4⟩
      · refine jn_ch r lo _ _ ?_ ?_ ?_ (c4.weak (by omega))
        · split <;> omega
        · split <;> split <;> omega
        · split <;> omega
/-- What the other way keeps, and what it joins. -/
def kp : Int → Int → Bl → Bl
  | _, _, [] => []
  | a, b, p :: r => if p.2 < a ∨ p.1 > b then p :: kp a b r else kp (if p.1 < a then p.1 else a) (if p.2 > b then p.2 else b) r
def xj : Int → Int → Bl → Int × Int
  | a, b, [] => (a, b)
  | a, b, p :: r => if p.2 < a ∨ p.1 > b then xj a b r else xj (if p.1 < a then p.1 else a) (if p.2 > b then p.2 else b) r
theorem kp_above : ∀ (l : Bl) (lo a b : Int), b ≤ lo → Ch lo l → kp a b l = l ∧ xj a b l = (a, b)
  | [], _, _, _, _, _ => ⟨rfl, rfl⟩
  | p :: r, lo, a, b, h, ⟨c1, c2, c3, c4⟩ => by
    obtain ⟨h1, h2⟩ := kp_above r p.2 a b (by omega) c4
    rw [kp, xj, if_pos (.inr (by omega)), if_pos (.inr (by omega)), h1, h2]; exact ⟨rfl, rfl⟩
theorem jn_split : ∀ (l : Bl) (lo a b : Int), a < b → Ch lo l → ∃ L R, jn a b l = L ++ xj a b l :: R ∧ kp a b l = L ++ R ∧ (∀ p ∈ L, p.1 < (xj a b l).1) ∧ (∀ p ∈ R, (xj a b l).1 < p.1)
  | [], lo, a, b, h, _ => ⟨[], [], rfl, rfl, fun p hp => (by cases hp), fun p hp => (by cases hp)⟩
  | p :: r, lo, a, b, h, ⟨c1, c2, c3, c4⟩ => by
    by_cases h1 : p.2 < a
    · obtain ⟨L, R, q1, q2, q3, q4⟩ := jn_split r p.2 a b h c4
      have hx : p.2 < (xj a b r).1 := by
        have gen : ∀ (r : Bl) (lo a b : Int), lo < a → Ch lo r → lo < (xj a b r).1 := by
          intro r
          induction r with
          | nil => intro lo a b h _; exact h
          | cons q r ih =>
            intro lo a b h hc
            obtain ⟨d1, d2, d3, d4⟩ := hc
            rw [xj]; split
            · exact ih lo a b h (d4.weak (by omega))
            · exact ih lo _ _ (by split <;> omega) (d4.weak (by omega))
        exact gen r p.2 a b h1 c4
      rw [jn, kp, xj, if_pos h1, if_pos (.inl h1), if_pos (.inl h1), q1, q2]
      refine ⟨p :: L, R, rfl, rfl, fun q hq => ?_, q4⟩
      rcases List.mem_cons.1 hq with rfl | hq
      · omega
      · exact q3 q hq
    · by_cases h2 : b < p.1
      · obtain ⟨e1, e2⟩ := kp_above r p.2 a b (by omega) c4
        rw [jn, kp, xj, if_neg h1, if_pos h2, if_pos (.inr h2), if_pos (.inr h2), e1, e2]
        refine ⟨[], p :: r, rfl, rfl, fun q hq => (by cases hq), fun q hq => ?_⟩
        rcases List.mem_cons.1 hq with rfl | hq
        · show a < q.1; omega
        · have := (Ch.mem c4 q hq).1
          show a < q.1; omega
      · have h3 : ¬(p.2 < a ∨ p.1 > b) := by omega
        rw [jn, kp, xj, if_neg h1, if_neg h2, if_neg h3, if_neg h3]
        exact jn_split r p.2 (if p.1 < a then p.1 else a) (if b < p.2 then p.2 else b) (by split <;> split <;> omega) c4

/-! The document's way. -/
theorem join_loop (l : Bl) (hl : l.length ≤ 1000) : ∀ (d : Nat) (i a b : Int) (out : Bl) (hi : 0 ≤ i ∧ i + d = l.length) (ho : out.length ≤ i.toNat),
    Ev (fun n => f88_broughamref06_Join_L3 n l i a b out) (fun w => w = ((xj a b (l.drop i.toNat)).1, (xj a b (l.drop i.toNat)).2, out ++ kp a b (l.drop i.toNat)))
  | 0, i, a, b, out, hi, ho => by
    apply Ev.succ
    unfold f88_broughamref06_Join_L3
    refine Ev.neg (by simp only [decide_eq_true_eq]; omega) (Ev.some ?_)
    rw [List.drop_eq_nil_of_le (by omega)]; simp [xj, kp]
  | d + 1, i, a, b, out, hi, ho => by
    have e1 : l.drop i.toNat = l.getD i.toNat (0, 0) :: l.drop (i.toNat + 1) := drop_cons (by omega) _
    have e2 : (i + 1).toNat = i.toNat + 1 := by omega
    apply Ev.succ
    unfold f88_broughamref06_Join_L3
    rw [e1, i64_id (e := i + 1) (by omega) (by omega), ← e2]
    refine Ev.pos (by simp only [decide_eq_true_eq]; omega) (Ev.guard (by omega) ?_)
    have keep : ((l.getD i.toNat (0, 0)).2 < a ∨ (l.getD i.toNat (0, 0)).1 > b) → Ev (fun n => f88_broughamref06_Join_L3 n l (i + 1) a b (out ++ [l.getD i.toNat (0, 0)])) (fun w => w = ((xj a b (l.getD i.toNat (0, 0) :: l.drop (i + 1).toNat)).1, (xj a b (l.getD i.toNat (0, 0) :: l.drop (i + 1).toNat)).2, out ++ kp a b (l.getD i.toNat (0, 0) :: l.drop (i + 1).toNat))) := by
      intro h
      refine (join_loop l hl d (i + 1) a b (out ++ [l.getD i.toNat (0, 0)]) (by omega) (by simp only [List.length_append, List.length_singleton]; omega)).mono ?_
      rintro _ rfl
      rw [xj, kp, if_pos h, if_pos h]; simp
    have mrg : ¬((l.getD i.toNat (0, 0)).2 < a ∨ (l.getD i.toNat (0, 0)).1 > b) → ∀ a' b', a' = (if (l.getD i.toNat (0, 0)).1 < a then (l.getD i.toNat (0, 0)).1 else a) → b' = (if (l.getD i.toNat (0, 0)).2 > b then (l.getD i.toNat (0, 0)).2 else b) → Ev (fun n => f88_broughamref06_Join_L3 n l (i + 1) a' b' out) (fun w => w = ((xj a b (l.getD i.toNat (0, 0) :: l.drop (i + 1).toNat)).1, (xj a b (l.getD i.toNat (0, 0) :: l.drop (i + 1).toNat)).2, out ++ kp a b (l.getD i.toNat (0, 0) :: l.drop (i + 1).toNat))) := by
      rintro h _ _ rfl rfl
      refine (join_loop l hl d (i + 1) _ _ out (by omega) (by omega)).mono ?_
      rintro _ rfl
      rw [xj, kp, if_neg h, if_neg h]
    refine Ev.ite (fun c => ?_) (fun c => ?_)
    · simp only [decide_eq_true_eq] at c
      exact Ev.guard (by omega) (Ev.guard (by simp only [List.length_singleton, maxLen]; omega) (keep (.inl c)))
    simp only [decide_eq_true_eq] at c
    refine Ev.guard (by omega) (Ev.ite (fun c2 => ?_) (fun c2 => ?_))
    · simp only [decide_eq_true_eq] at c2
      exact Ev.guard (by omega) (Ev.guard (by simp only [List.length_singleton, maxLen]; omega) (keep (.inr c2)))
    simp only [decide_eq_true_eq] at c2
    have hn : ¬((l.getD i.toNat (0, 0)).2 < a ∨ (l.getD i.toNat (0, 0)).1 > b) := by omega
    refine Ev.guard (by omega) (Ev.ite (fun c3 => ?_) (fun c3 => ?_))
    · simp only [decide_eq_true_eq] at c3
      refine Ev.guard (by omega) (Ev.guard (by omega) (Ev.ite (fun c4 => ?_) (fun c4 => ?_)))
      · simp only [decide_eq_true_eq] at c4
        exact Ev.guard (by omega) (mrg hn _ _ (by rw [if_pos c3]) (by rw [if_pos c4]))
      · simp only [decide_eq_true_eq] at c4
        exact mrg hn _ _ (by rw [if_pos c3]) (by rw [if_neg c4])
    · simp only [decide_eq_true_eq] at c3
      refine Ev.guard (by omega) (Ev.ite (fun c4 => ?_) (fun c4 => ?_))
      · simp only [decide_eq_true_eq] at c4
        exact Ev.guard (by omega) (mrg hn _ _ (by rw [if_neg c3]) (by rw [if_pos c4]))
      · simp only [decide_eq_true_eq] at c4
        exact mrg hn _ _ (by rw [if_neg c3]) (by rw [if_neg c4])
theorem getD_at {α : Type} (A : List α) (p : α) (r : List α) (d : α) : (A ++ p :: r).getD A.length d = p := by
  simp [List.getD_eq_getElem?_getD]
theorem set_at {α : Type} (A : List α) (p v : α) (r : List α) : (A ++ p :: r).set A.length v = A ++ v :: r := by
  induction A with
  | nil => rfl
  | cons x A ih => simp [ih]
theorem sink_loop (L : Bl) (x : Int × Int) (hL : ∀ p ∈ L, p.1 < x.1) : ∀ (A R : Bl) (hA : ∀ p ∈ A, x.1 < p.1) (hl : L.length + A.length + R.length ≤ 1000),
    Ev (fun n => f88_broughamref06_Join_L13 n ((L.length + A.length : Nat) : Int) (L ++ A ++ x :: R)) (fun w => w = L ++ x :: (A ++ R)) := by
  intro A
  induction hn : A.length generalizing A with
  | zero =>
    intro R hA hl
    have e : A = [] := List.length_eq_zero_iff.1 hn
    subst e
    apply Ev.succ
    unfold f88_broughamref06_Join_L13
    rw [List.append_nil]
    refine Ev.ite (fun c => ?_) (fun c => Ev.some (by simp))
    simp only [decide_eq_true_eq] at c
    have hlen : (L ++ x :: R).length = L.length + R.length + 1 := by simp; omega
    have e1 : IntKind.wrap .i64 (((L.length + 0 : Nat) : Int) - 1) = ((L.length - 1 : Nat) : Int) := by rw [i64_id (by omega) (by omega)]; omega
    rw [e1, Int.toNat_natCast, Int.toNat_natCast]
    refine Ev.guard (by omega) (Ev.guard (by omega) (Ev.neg ?_ (Ev.some (by simp))))
    have e2 : (L ++ x :: R).getD (L.length + 0) (0, 0) = x := getD_at L x R _
    have e3 : (L ++ x :: R).getD (L.length - 1) (0, 0) ∈ L := by
      rw [List.getD_eq_getElem?_getD, List.getElem?_append_left (by omega), ← List.getD_eq_getElem?_getD]
      exact getD_mem (by omega) _
    have := hL _ e3
    rw [e2]
    simp only [decide_eq_true_eq]; omega
  | succ k ih =>
    intro R hA hl
    obtain ⟨A', q, rfl⟩ : ∃ A' q, A = A' ++ [q] := by
      have : A ≠ [] := fun e => by subst e; cases hn
      exact ⟨A.dropLast, A.getLast this, (List.dropLast_concat_getLast this).symm⟩
    have hk : A'.length = k := by simp only [List.length_append, List.length_singleton] at hn; omega
    have hq : x.1 < q.1 := hA q (by simp)
    have hlen : (L ++ (A' ++ [q]) ++ x :: R).length = L.length + A'.length + R.length + 2 := by simp; omega
    apply Ev.succ
    unfold f88_broughamref06_Join_L13
    have e1 : IntKind.wrap .i64 (((L.length + (k + 1) : Nat) : Int) - 1) = ((L.length + k : Nat) : Int) := by rw [i64_id (by omega) (by omega)]; omega
    rw [e1, Int.toNat_natCast, Int.toNat_natCast]
    have s1 : L ++ (A' ++ [q]) ++ x :: R = (L ++ A' ++ [q]) ++ x :: R := by simp
    have s2 : L ++ (A' ++ [q]) ++ x :: R = (L ++ A') ++ q :: (x :: R) := by simp
    have l1 : (L ++ A' ++ [q]).length = L.length + (k + 1) := by simp; omega
    have l2 : (L ++ A').length = L.length + k := by simp; omega
    have g1 : (L ++ (A' ++ [q]) ++ x :: R).getD (L.length + (k + 1)) (0, 0) = x := by rw [s1, ← l1]; exact getD_at _ _ _ _
    have g2 : (L ++ (A' ++ [q]) ++ x :: R).getD (L.length + k) (0, 0) = q := by rw [s2, ← l2]; exact getD_at _ _ _ _
    rw [g1, g2]
    have t1 : (L ++ (A' ++ [q]) ++ x :: R).set (L.length + (k + 1)) q = (L ++ A') ++ q :: (q :: R) := by
      rw [s1, ← l1, set_at]; simp
    have t2 : ((L ++ A') ++ q :: (q :: R)).set (L.length + k) x = L ++ A' ++ x :: (q :: R) := by rw [← l2, set_at]
    rw [t1, t2]
    refine Ev.pos (by simp only [decide_eq_true_eq]; omega) (Ev.guard (by omega) (Ev.guard (by omega) (Ev.pos (by simp only [decide_eq_true_eq]; omega) (Ev.guard (by omega) (Ev.guard (by omega) (Ev.guard (by omega) (Ev.guard ?_ ?_)))))))
    · have : (L ++ A' ++ q :: (q :: R)).length = L.length + A'.length + R.length + 2 := by simp; omega
      omega
    have hl' : L.length + A'.length + (q :: R).length ≤ 1000 := by simp only [List.length_append, List.length_singleton, List.length_cons] at hl ⊢; omega
    refine (ih A' hk (q :: R) (fun p hp => hA p (List.mem_append_left _ hp)) (by rw [hk] at hl'; omega)).mono ?_
    rintro _ rfl
    simp
theorem kp_len : ∀ (l : Bl) (a b : Int), (kp a b l).length ≤ l.length
  | [], _, _ => by simp [kp]
  | p :: r, a, b => by
    rw [kp]; split
    · have := kp_len r a b; simp only [List.length_cons]; omega
    · have := kp_len r (if p.1 < a then p.1 else a) (if p.2 > b then p.2 else b); simp only [List.length_cons]; omega
theorem join_is (l : Bl) (hl : l.length ≤ 900) (lo a b : Int) (h : a < b) (hc : Ch lo l) : Ev (fun n => f88_broughamref06_Join n l a b) (fun r => r = jn a b l) := by
  unfold f88_broughamref06_Join
  refine Ev.bind (join_loop l (by omega) l.length 0 a b [] (by omega) (by simp)) ?_
  rintro _ rfl
  rw [show l.drop (0 : Int).toNat = l from rfl, List.nil_append]
  obtain ⟨L, R, q1, q2, q3, q4⟩ := jn_split l lo a b h hc
  have hk := kp_len l a b
  rw [q2] at hk
  simp only [List.length_append] at hk
  dsimp only
  rw [q2]
  refine Ev.guard (by simp only [List.length_append, List.length_singleton, maxLen]; omega) ?_
  have e1 : IntKind.wrap .i64 (((((L ++ R) ++ [((xj a b l).1, (xj a b l).2)]).length : Nat) : Int) - 1) = ((L.length + R.length : Nat) : Int) := by
    simp only [List.length_append, List.length_singleton]
    rw [i64_id (by omega) (by omega)]; omega
  rw [e1]
  have := sink_loop L (xj a b l) q3 R [] q4 (by simp; omega)
  refine Ev.bind this ?_
  rintro _ rfl
  refine Ev.some ?_
  rw [q1]; simp
end Go.Proofs.YtjoibacjpapncaaF31b
