/- SackPlays: what is waited for, and the pieces ahead of it, are the document's: of the functions that text F31b prints. Conditions: none. -/
import Derived.Test.YtjoibacjpapncaaPureJoins
namespace Go.Proofs.YtjoibacjpapncaaF31b
open Go Zed
set_option linter.unusedVariables false
set_option linter.unusedSimpArgs false

def em (w : Int) (p : Int × Int) : Int × Int := ((w + p.1) % 4294967296, (w + p.2) % 4294967296)
abbrev emb (w : Int) (l : Bl) : Bl := l.map (em w)
theorem emb_app (w : Int) (a b : Bl) : emb w (a ++ b) = emb w a ++ emb w b := List.map_append
theorem emb_nums (w : Int) (l : Bl) : Nums (emb w l) := by
  intro p hp
  obtain ⟨q, _, rfl⟩ := List.mem_map.1 hp
  exact ⟨⟨by show 0 ≤ _ % _; omega, by show _ % _ < _; omega⟩, ⟨by show 0 ≤ _ % _; omega, by show _ % _ < _; omega⟩⟩
theorem less_is (w x y : Int) (h : -2147483648 ≤ x - y ∧ x - y < 2147483648) : f91_serial_Less ((w + x) % 4294967296) ((w + y) % 4294967296) = some (decide (x < y)) := by
  unfold f91_serial_Less
  rw [w_u32, w_i32]
  have e : (((w + x) % 4294967296 - (w + y) % 4294967296) % 4294967296 + 2147483648) % 4294967296 - 2147483648 = x - y := by omega
  rw [e]
  by_cases c : x < y
  · rw [decide_eq_true c, decide_eq_true (by omega)]
  · rw [decide_eq_false c, decide_eq_false (by omega)]
theorem max_is (w x y : Int) (h : -2147483648 ≤ x - y ∧ x - y < 2147483648) : f128_serial_Max ((w + x) % 4294967296) ((w + y) % 4294967296) = some ((w + (if x < y then y else x)) % 4294967296) := by
  unfold f128_serial_Max
  rw [less_is w x y h]
  show (if decide (x < y) = true then _ else _) = _
  by_cases c : x < y
  · rw [if_pos (by simpa using c), if_pos c]
  · rw [if_neg (by simpa using c), if_neg c]

/-! The sack's way. -/
theorem emb_getD (w : Int) (l : Bl) {i : Nat} (h : i < l.length) : (emb w l).getD i (0, 0) = em w (l.getD i (0, 0)) := by
  simp [List.getD_eq_getElem?_getD, List.getElem?_eq_getElem h]
theorem done_loop (w : Int) (l0 : Bl) (hl : l0.length ≤ 500) (x0 x1 : Int) (x2 : Bl) : ∀ (d : Nat) (i a b : Int) (O : Bl) (hi : 0 ≤ i ∧ i + d = l0.length) (ho : O.length ≤ i.toNat + 1) (ha : 0 ≤ a ∧ a < b ∧ b ≤ B) (hc : Ch b (l0.drop i.toNat)),
    Ev (fun n => f93_sack_Board_put_v2_L4 n (emb w O) true (emb w l0) ((l0.length : Nat) : Int) i x0 x1 x2 ((w + a) % 4294967296) ((w + b) % 4294967296)) (fun r => r = (emb w (O ++ l0.drop i.toNat), true, x0, x1, x2, (w + a) % 4294967296, (w + b) % 4294967296))
  | 0, i, a, b, O, hi, ho, ha, hc => by
    apply Ev.succ
    unfold f93_sack_Board_put_v2_L4
    refine Ev.neg (by simp only [decide_eq_true_eq]; omega) (Ev.some ?_)
    rw [List.drop_eq_nil_of_le (by omega)]; simp
  | d + 1, i, a, b, O, hi, ho, ha, hc => by
    have e1 : l0.drop i.toNat = l0.getD i.toNat (0, 0) :: l0.drop (i.toNat + 1) := drop_cons (by omega) _
    have e2 : (i + 1).toNat = i.toNat + 1 := by omega
    rw [e1] at hc
    obtain ⟨c1, c2, c3, c4⟩ := hc
    have hm : (emb w O).length = O.length := List.length_map _
    apply Ev.succ
    unfold f93_sack_Board_put_v2_L4
    refine Ev.pos (by simp only [decide_eq_true_eq]; omega) (Ev.guard (by rw [List.length_map]; omega) ?_)
    rw [emb_getD w l0 (by omega)]
    have c3' : (l0.getD i.toNat (0, 0)).2 ≤ 1048576 := c3
    have hb' : b ≤ 1048576 := ha.2.2
    refine Ev.bind (Ev.of (less_is w _ a (by omega)) rfl) ?_
    rintro _ rfl
    refine Ev.neg (by simp only [decide_eq_true_eq]; omega) ?_
    refine Ev.bind (Ev.of (less_is w b _ (by omega)) rfl) ?_
    rintro _ rfl
    refine Ev.pos (by simp only [decide_eq_true_eq]; omega) (Ev.neg (by simp) (Ev.guard (by simp only [List.length_singleton, maxLen]; omega) ?_))
    rw [i64_id (by omega) (by omega)]
    have := done_loop w l0 hl x0 x1 x2 d (i + 1) a b (O ++ [l0.getD i.toNat (0, 0)]) (by omega) (by simp only [List.length_append, List.length_singleton]; omega) ha (by rw [e2]; exact c4.weak (by omega))
    rw [emb_app w O [l0.getD i.toNat (0, 0)]] at this
    refine this.mono ?_
    rintro _ rfl
    rw [e1, e2]; simp
theorem put_loop (w : Int) (l0 : Bl) (hl : l0.length ≤ 500) (x0 x1 : Int) (x2 : Bl) : ∀ (d : Nat) (i lo a b : Int) (O : Bl) (hi : 0 ≤ i ∧ i + d = l0.length) (ho : O.length ≤ i.toNat) (ha : 0 ≤ a ∧ a < b ∧ b ≤ B) (h0 : 0 ≤ lo) (hc : Ch lo (l0.drop i.toNat)),
    Ev (fun n => f93_sack_Board_put_v2_L4 n (emb w O) false (emb w l0) ((l0.length : Nat) : Int) i x0 x1 x2 ((w + a) % 4294967296) ((w + b) % 4294967296)) (fun r => ∃ O' dn b0 b1, r = (O', dn, x0, x1, x2, b0, b1) ∧ (if dn = true then O' else O' ++ [(b0, b1)]) = emb w (O ++ jn a b (l0.drop i.toNat)) ∧ O'.length ≤ l0.length + 1)
  | 0, i, lo, a, b, O, hi, ho, ha, h0, hc => by
    apply Ev.succ
    unfold f93_sack_Board_put_v2_L4
    refine Ev.neg (by simp only [decide_eq_true_eq]; omega) (Ev.some ⟨_, _, _, _, rfl, ?_, by rw [List.length_map]; omega⟩)
    rw [List.drop_eq_nil_of_le (by omega)]; simp [jn, em]
  | d + 1, i, lo, a, b, O, hi, ho, ha, h0, hc => by
    have e1 : l0.drop i.toNat = l0.getD i.toNat (0, 0) :: l0.drop (i.toNat + 1) := drop_cons (by omega) _
    have e2 : (i + 1).toNat = i.toNat + 1 := by omega
    rw [e1] at hc ⊢
    obtain ⟨c1, c2, c3, c4⟩ := hc
    have hm : (emb w O).length = O.length := List.length_map _
    have c3' : (l0.getD i.toNat (0, 0)).2 ≤ 1048576 := c3
    have hb' : b ≤ 1048576 := ha.2.2
    apply Ev.succ
    unfold f93_sack_Board_put_v2_L4
    refine Ev.pos (by simp only [decide_eq_true_eq]; omega) (Ev.guard (by rw [List.length_map]; omega) ?_)
    rw [emb_getD w l0 (by omega), i64_id (e := i + 1) (by omega) (by omega)]
    generalize hp : l0.getD i.toNat (0, 0) = p at e1 c1 c2 c3 c4 c3' ⊢
    refine Ev.bind (Ev.of (less_is w p.2 a (by omega)) rfl) ?_
    rintro _ rfl
    rw [← e2] at c4 ⊢
    by_cases k1 : p.2 < a
    · refine Ev.pos (by simpa using k1) (Ev.guard (by simp only [List.length_singleton, maxLen]; omega) ?_)
      have := put_loop w l0 hl x0 x1 x2 d (i + 1) p.2 a b (O ++ [p]) (by omega) (by simp only [List.length_append, List.length_singleton]; omega) ha (by omega) c4
      rw [emb_app w O [p]] at this
      refine this.mono ?_
      rintro _ ⟨O', dn, b0, b1, rfl, q1, q2⟩
      refine ⟨O', dn, b0, b1, rfl, ?_, q2⟩
      rw [q1, jn, if_pos k1]; simp
    refine Ev.neg (by simpa using k1) ?_
    refine Ev.bind (Ev.of (less_is w b p.1 (by omega)) rfl) ?_
    rintro _ rfl
    by_cases k2 : b < p.1
    · refine Ev.pos (by simpa using k2) (Ev.pos (by simp) (Ev.guard (by simp only [List.length_singleton, maxLen]; omega) (Ev.guard (by simp only [List.length_append, List.length_singleton, maxLen]; omega) ?_)))
      have := done_loop w l0 hl x0 x1 x2 d (i + 1) a b ((O ++ [(a, b)]) ++ [p]) (by omega) (by simp only [List.length_append, List.length_singleton]; omega) ha (c4.weak (by omega))
      rw [emb_app w (O ++ [(a, b)]) [p], emb_app w O [(a, b)]] at this
      refine this.mono ?_
      rintro _ rfl
      refine ⟨_, _, _, _, rfl, ?_, ?_⟩
      · rw [if_pos rfl, jn, if_neg k1, if_pos k2]; simp
      · simp only [List.length_map, List.length_append, List.length_singleton, List.length_drop]; omega
    refine Ev.neg (by simpa using k2) ?_
    refine Ev.bind (Ev.of (less_is w p.1 a (by omega)) rfl) ?_
    rintro _ rfl
    have key : ∀ a', a' = (if p.1 < a then p.1 else a) → Ev (fun n => (f128_serial_Max ((w + b) % 4294967296) ((w + p.2) % 4294967296)).bind fun r => f93_sack_Board_put_v2_L4 n (emb w O) false (emb w l0) ((l0.length : Nat) : Int) (i + 1) x0 x1 x2 ((w + a') % 4294967296) r)
        (fun r => ∃ O' dn b0 b1, r = (O', dn, x0, x1, x2, b0, b1) ∧ (if dn = true then O' else O' ++ [(b0, b1)]) = emb w (O ++ jn a b (p :: l0.drop (i + 1).toNat)) ∧ O'.length ≤ l0.length + 1) := by
      rintro _ rfl
      refine Ev.bind (Ev.of (max_is w b p.2 (by omega)) rfl) ?_
      rintro _ rfl
      have hab : 0 ≤ (if p.1 < a then p.1 else a) ∧ (if p.1 < a then p.1 else a) < (if b < p.2 then p.2 else b) ∧ (if b < p.2 then p.2 else b) ≤ B := by
        refine ⟨?_, ?_, ?_⟩
        · split <;> omega
        · split <;> split <;> omega
        · split <;> omega
      refine (put_loop w l0 hl x0 x1 x2 d (i + 1) p.2 _ _ O (by omega) (by omega) hab (by omega) c4).mono ?_
      rintro _ ⟨O', dn, b0, b1, rfl, q1, q2⟩
      refine ⟨O', dn, b0, b1, rfl, ?_, q2⟩
      rw [q1, jn, if_neg k1, if_neg k2]
    refine Ev.ite (fun c => ?_) (fun c => ?_)
    · simp only [decide_eq_true_eq] at c
      exact key p.1 (by rw [if_pos c])
    · simp only [decide_eq_true_eq] at c
      exact key a (by rw [if_neg c])
theorem clone_is (s : Bl) (h : s.length ≤ 1000) : f94_sack_Block s = some s := by
  unfold f94_sack_Block
  rw [if_pos (by simp only [List.length_nil, maxLen]; omega)]; rfl
/-- What both are, after a piece from a to b. -/
def res (w most : Int) (L : Bl) (a b : Int) : Bool × Int × Bl := match jn a b L with
  | [] => (false, w, L)
  | p :: r => if p.1 = 0 then (true, (w + p.2) % 4294967296, r.map fun q => (q.1 - p.2, q.2 - p.2)) else if ((r.length : Nat) : Int) + 1 > most then (false, w, L) else (true, w, p :: r)
theorem res_cons {w most : Int} {L : Bl} {a b : Int} {p : Int × Int} {r : Bl} (h : jn a b L = p :: r) : res w most L a b = if p.1 = 0 then (true, (w + p.2) % 4294967296, r.map fun q => (q.1 - p.2, q.2 - p.2)) else if ((r.length : Nat) : Int) + 1 > most then (false, w, L) else (true, w, p :: r) := by
  unfold res; rw [h]
structure Inv (w most : Int) (L : Bl) : Prop where
  hw : U32 w
  hm : 1 ≤ most ∧ most ≤ 64
  hc : Ch 0 L
  hl : ((L.length : Nat) : Int) ≤ most
theorem shift_ch : ∀ (r : Bl) (lo d : Int), 0 ≤ d → Ch (lo + d) r → Ch lo (r.map fun q => (q.1 - d, q.2 - d))
  | [], _, _, _, _ => trivial
  | p :: r, lo, d, hd, ⟨c1, c2, c3, c4⟩ => by
    refine ⟨by show lo < p.1 - d; omega, by show p.1 - d < p.2 - d; omega, ?_, shift_ch r (p.2 - d) d hd (by rw [show p.2 - d + d = p.2 by omega]; exact c4)⟩
    show p.2 - d ≤ B
    have : p.2 ≤ B := c3
    omega
theorem res_inv {w most : Int} {L : Bl} (h : Inv w most L) {a b : Int} (ha : 0 ≤ a ∧ a < b ∧ b ≤ B) : Inv (res w most L a b).2.1 most (res w most L a b).2.2 := by
  have hj := jn_ch L (-1) a b (by omega) ha.2.1 ha.2.2 (h.hc.weak (by omega))
  have hn := jn_len L a b
  unfold res
  cases hJ : jn a b L with
  | nil => exact h
  | cons p r =>
    rw [hJ] at hj hn
    obtain ⟨c1, c2, c3, c4⟩ := hj
    simp only [List.length_cons] at hn
    have := h.hl
    dsimp only
    split
    · exact ⟨⟨by show 0 ≤ _ % _; omega, by show _ % _ < _; omega⟩, h.hm, shift_ch r 0 p.2 (by omega) (by rw [Int.zero_add]; exact c4), by simp only [List.length_map]; omega⟩
    · split
      · exact h
      · exact ⟨h.hw, h.hm, ⟨by omega, c2, c3, c4⟩, by simp only [List.length_cons]; omega⟩
theorem shift_emb (w d : Int) (r : Bl) : emb ((w + d) % 4294967296) (r.map fun q => (q.1 - d, q.2 - d)) = emb w r := by
  show List.map (em ((w + d) % 4294967296)) (List.map (fun q => (q.1 - d, q.2 - d)) r) = List.map (em w) r
  rw [List.map_map]
  refine List.map_congr_left fun q _ => ?_
  show (((w + d) % 4294967296 + (q.1 - d)) % 4294967296, ((w + d) % 4294967296 + (q.2 - d)) % 4294967296) = ((w + q.1) % 4294967296, (w + q.2) % 4294967296)
  rw [Prod.mk.injEq]; omega
/-- The board after the pieces stand. -/
theorem board_end {w most : Int} {L : Bl} (h : Inv w most L) {a b : Int} (ha : 0 ≤ a ∧ a < b ∧ b ≤ B) (F : Bl) (hF : F = emb w (jn a b L)) :
    (if (0 : Int) ≤ 0 ∧ 0 < (((F).length : Nat) : Int) then
    if ((((F.getD 0 (0, 0)).1) : Int) == w) = true then
      if (0 : Int) ≤ 0 ∧ 0 < (((F).length : Nat) : Int) then
      if cutOk F.length (some 1) none none then
      if (decide ((((((F.take F.length).drop 1).length : Nat) : Int) : Int) > most)) = true then
        some (false, (F.getD 0 (0, 0)).2, most, emb w L)
      else
        (f94_sack_Block ((F.take F.length).drop 1)).bind fun r436_0 =>
        some (true, (F.getD 0 (0, 0)).2, most, r436_0)
      else none
      else none
    else
      if (decide ((((F.length : Nat) : Int) : Int) > most)) = true then
        some (false, w, most, emb w L)
      else
        (f94_sack_Block F).bind fun r440_0 =>
        some (true, w, most, r440_0)
    else none) = some ((res w most L a b).1, (res w most L a b).2.1, most, emb (res w most L a b).2.1 (res w most L a b).2.2) := by
  have hj := jn_ch L (-1) a b (by omega) ha.2.1 ha.2.2 (h.hc.weak (by omega))
  have hn := jn_len L a b
  have hne := jn_ne L a b
  have hlm := h.hl; have hm := h.hm; have hw := h.hw
  cases hJ : jn a b L with
  | nil => exact absurd hJ hne
  | cons p r =>
    rw [res_cons hJ]
    rw [hJ] at hj hn hF
    obtain ⟨c1, c2, c3, c4⟩ := hj
    have c3 : p.2 ≤ 1048576 := c3
    simp only [List.length_cons] at hn
    subst hF
    have g0 : (emb w (p :: r)).getD 0 (0, 0) = em w p := rfl
    have gl : (emb w (p :: r)).length = r.length + 1 := by simp
    have gd : ((emb w (p :: r)).take (emb w (p :: r)).length).drop 1 = emb w r := by rw [List.take_length]; rfl
    rw [g0, gd, gl, clone_is _ (by rw [List.length_map]; omega), clone_is (emb w (p :: r)) (by rw [gl]; omega), List.length_map]
    rw [if_pos (by omega)]
    by_cases z : p.1 = 0
    · have e1 : (((em w p).1 : Int) == w) = true := by
        simp only [beq_iff_eq, em]; omega
      rw [if_pos e1, if_pos (by omega), if_pos (by simp [cutOk]; omega), if_neg (by simp only [decide_eq_true_eq]; omega), if_pos z]
      show some (true, (em w p).2, most, emb w r) = _
      dsimp only
      rw [shift_emb]; rfl
    · have e1 : ¬(((em w p).1 : Int) == w) = true := by
        simp only [beq_iff_eq, em]; omega
      rw [if_neg e1, if_neg z]
      by_cases q : ((r.length : Nat) : Int) + 1 > most
      · rw [if_pos (by simp only [decide_eq_true_eq]; omega), if_pos q]
      · rw [if_neg (by simp only [decide_eq_true_eq]; omega), if_neg q]; rfl
theorem put_ev {w most : Int} {L : Bl} (h : Inv w most L) {a b : Int} (ha : 0 ≤ a ∧ a < b ∧ b ≤ B) :
    Ev (fun n => f93_sack_Board_put_v2 n ((w + a) % 4294967296) ((w + b) % 4294967296) w most (emb w L)) (fun r => r = ((res w most L a b).1, (res w most L a b).2.1, most, emb (res w most L a b).2.1 (res w most L a b).2.2)) := by
  have hlm := h.hl; have hm := h.hm
  unfold f93_sack_Board_put_v2
  have := put_loop w L (by omega) w most (emb w L) L.length 0 0 a b [] (by omega) (by simp) ha (by omega) h.hc
  rw [show ((emb w L).length : Nat) = L.length from List.length_map _]
  refine Ev.bind this ?_
  rintro _ ⟨O', dn, b0, b1, rfl, q1, q2⟩
  rw [List.nil_append, show L.drop (0 : Int).toNat = L from rfl] at q1
  dsimp only
  cases dn with
  | false =>
    refine Ev.pos (by simp) (Ev.guard (by simp only [List.length_singleton, maxLen]; omega) ?_)
    exact Ev.of (board_end h ha (O' ++ [(b0, b1)]) q1) rfl
  | true =>
    refine Ev.neg (by simp) ?_
    exact Ev.of (board_end h ha O' q1) rfl
/-! A call. -/
def nearB (x w : Int) : Bool := if decide ((x - w) % 4294967296 < 1048576) = true then true else decide ((w - x) % 4294967296 < 1048576)
def cm (w most : Int) (L : Bl) (x many : Int) : Bool × Int × Bl :=
  if many < 1 ∨ many > 1024 then (many == 0, w, L) else
  if df ((x + many) % 4294967296) w ≤ 0 then (nearB x w, w, L) else
  if (if df x w < 0 then 0 else df x w) > 1048576 ∨ df ((x + many) % 4294967296) w > 1048576 then (false, w, L) else
  res w most L (if df x w < 0 then 0 else df x w) (df ((x + many) % 4294967296) w)
theorem ab_in {w x many : Int} (hx : U32 x) (hw : U32 w) (hm : 1 ≤ many ∧ many ≤ 1024) (h1 : 0 < df ((x + many) % 4294967296) w) (h2 : ¬((if df x w < 0 then 0 else df x w) > 1048576 ∨ df ((x + many) % 4294967296) w > 1048576)) :
    0 ≤ (if df x w < 0 then 0 else df x w) ∧ (if df x w < 0 then 0 else df x w) < df ((x + many) % 4294967296) w ∧ df ((x + many) % 4294967296) w ≤ B := by
  show _ ∧ _ ∧ _ ≤ (1048576 : Int)
  unfold df at *
  split at h2 <;> rename_i c
  · rw [if_pos c]; omega
  · rw [if_neg c]; omega
theorem cm_inv {w most : Int} {L : Bl} (h : Inv w most L) {x many : Int} (hx : U32 x) : Inv (cm w most L x many).2.1 most (cm w most L x many).2.2 := by
  unfold cm
  by_cases c0 : many < 1 ∨ many > 1024
  · rw [if_pos c0]; exact h
  rw [if_neg c0]
  by_cases c1 : df ((x + many) % 4294967296) w ≤ 0
  · rw [if_pos c1]; exact h
  rw [if_neg c1]
  by_cases c2 : (if df x w < 0 then 0 else df x w) > 1048576 ∨ df ((x + many) % 4294967296) w > 1048576
  · rw [if_pos c2]; exact h
  rw [if_neg c2]
  exact res_inv h (ab_in hx h.hw (by omega) (by omega) c2)
theorem within_is (x w : Int) : f127_serial_Within x w 1048576 = some (decide ((x - w) % 4294967296 < 1048576)) := by unfold f127_serial_Within; rw [w_u32]
theorem near_is (x w : Int) : f90_serial_Near x w 1048576 = some (nearB x w) := by
  unfold f90_serial_Near nearB
  rw [within_is, within_is]
  show (if decide ((x - w) % 4294967296 < 1048576) = true then _ else _) = _
  split <;> rfl
theorem bnear_is (x w most : Int) (l : Bl) : f92_sack_Board_near_v2 x w most l = some (decide ((x - w) % 4294967296 < 1048577), w, most, l) := by
  unfold f92_sack_Board_near_v2 f127_serial_Within
  rw [w_u32]; rfl
theorem came_ev {w most : Int} {L : Bl} (h : Inv w most L) {x many : Int} (hx : U32 x) :
    Ev (fun n => f33_sack_Board_Came_v2 n x many w most (emb w L)) (fun r => r = ((cm w most L x many).1, (cm w most L x many).2.1, most, emb (cm w most L x many).2.1 (cm w most L x many).2.2)) := by
  have hw := h.hw
  unfold f33_sack_Board_Came_v2 cm
  refine Ev.ite (fun c => Ev.some ?_) (fun c1 => ?_)
  · simp only [decide_eq_true_eq] at c; rw [if_pos (.inl c)]
  simp only [decide_eq_true_eq] at c1
  refine Ev.ite (fun c => Ev.some ?_) (fun c2 => ?_)
  · simp only [decide_eq_true_eq] at c; rw [if_pos (.inr c)]
  simp only [decide_eq_true_eq] at c2
  rw [if_neg (by omega)]
  have e1 : IntKind.wrap .u32 (x + IntKind.wrap .u32 many) = (x + many) % 4294967296 := by rw [w_u32, w_u32]; omega
  rw [e1]
  refine Ev.bind (Ev.of diff_is rfl) ?_
  rintro _ rfl
  refine Ev.ite (fun c => ?_) (fun c3 => ?_)
  · simp only [decide_eq_true_eq] at c; rw [if_pos c]
    refine Ev.bind (Ev.of (near_is x w) rfl) ?_
    rintro _ rfl
    exact Ev.some rfl
  simp only [decide_eq_true_eq] at c3
  rw [if_neg c3]
  have ew : w = (w + 0) % 4294967296 := by omega
  have ex : x = (w + df x w) % 4294967296 := by unfold df; omega
  have et : (x + many) % 4294967296 = (w + df ((x + many) % 4294967296) w) % 4294967296 := by unfold df; omega
  have hless : f91_serial_Less x w = some (decide (df x w < 0)) := by
    have := less_is w (df x w) 0 (by unfold df; omega)
    rwa [← ex, ← ew] at this
  refine Ev.bind (Ev.of hless rfl) ?_
  rintro _ rfl
  refine Ev.ite (fun c4 => ?_) (fun c4 => ?_)
  · simp only [decide_eq_true_eq] at c4
    rw [if_pos c4]
    refine Ev.bind (Ev.of (bnear_is _ _ _ _) rfl) ?_
    rintro _ rfl
    refine Ev.neg (by simp) ?_
    refine Ev.bind (Ev.of (bnear_is _ _ _ _) rfl) ?_
    rintro _ rfl
    refine Ev.ite (fun c5 => Ev.some ?_) (fun c5 => ?_)
    · have c5 : ¬ ((x + many) % 4294967296 - w) % 4294967296 < 1048577 := by simpa using c5
      rw [if_pos (.inr (by unfold df at c3 ⊢; omega))]
    · have c5 : ((x + many) % 4294967296 - w) % 4294967296 < 1048577 := by simpa using c5
      have hno : ¬((0 : Int) > 1048576 ∨ df ((x + many) % 4294967296) w > 1048576) := by unfold df at c3 ⊢; omega
      rw [if_neg hno]
      have := put_ev h (a := 0) (b := df ((x + many) % 4294967296) w) ⟨by omega, by omega, by show _ ≤ (1048576 : Int); omega⟩
      rw [← ew, ← et] at this
      refine Ev.bind this ?_
      rintro _ rfl
      exact Ev.some rfl
  · simp only [decide_eq_true_eq] at c4
    rw [if_neg c4]
    refine Ev.bind (Ev.of (bnear_is _ _ _ _) rfl) ?_
    rintro _ rfl
    refine Ev.ite (fun c5 => Ev.some ?_) (fun c5 => ?_)
    · have c5 : ¬ (x - w) % 4294967296 < 1048577 := by simpa using c5
      rw [if_pos (.inl (by unfold df at c4 ⊢; omega))]
    have c5 : (x - w) % 4294967296 < 1048577 := by simpa using c5
    refine Ev.bind (Ev.of (bnear_is _ _ _ _) rfl) ?_
    rintro _ rfl
    refine Ev.ite (fun c6 => Ev.some ?_) (fun c6 => ?_)
    · have c6 : ¬ ((x + many) % 4294967296 - w) % 4294967296 < 1048577 := by simpa using c6
      rw [if_pos (.inr (by unfold df at c3 ⊢; omega))]
    · have c6 : ((x + many) % 4294967296 - w) % 4294967296 < 1048577 := by simpa using c6
      have hno : ¬(df x w > 1048576 ∨ df ((x + many) % 4294967296) w > 1048576) := by unfold df at c3 c4 ⊢; omega
      rw [if_neg hno]
      have := put_ev h (a := df x w) (b := df ((x + many) % 4294967296) w) ⟨by omega, by unfold df at c3 c4 hno ⊢; omega, by show _ ≤ (1048576 : Int); omega⟩
      rw [← ex, ← et] at this
      refine Ev.bind this ?_
      rintro _ rfl
      exact Ev.some rfl
/-! The document's call. -/
theorem shift_loop (l : Bl) (hl : l.length ≤ 500) (d : Int) (hd : 0 ≤ d) (x0 x1 : Int) (x2 : Bl) : ∀ (k : Nat) (i : Int) (out : Bl) (hi : 0 ≤ i ∧ i + k = l.length) (ho : out.length ≤ i.toNat) (hc : Ch (d - 1) (l.drop i.toNat)),
    Ev (fun n => f32_broughamref31_Came_L20 n l d out i x0 x1 x2 0 0) (fun w => w = (d, out ++ (l.drop i.toNat).map (fun q => (q.1 - d, q.2 - d)), x0, x1, x2, 0, 0))
  | 0, i, out, hi, ho, hc => by
    apply Ev.succ
    unfold f32_broughamref31_Came_L20
    refine Ev.neg (by simp only [decide_eq_true_eq]; omega) (Ev.some ?_)
    rw [List.drop_eq_nil_of_le (by omega)]; simp
  | k + 1, i, out, hi, ho, hc => by
    have e1 : l.drop i.toNat = l.getD i.toNat (0, 0) :: l.drop (i.toNat + 1) := drop_cons (by omega) _
    have e2 : (i + 1).toNat = i.toNat + 1 := by omega
    rw [e1] at hc
    obtain ⟨c1, c2, c3, c4⟩ := hc
    have c3 : (l.getD i.toNat (0, 0)).2 ≤ 1048576 := c3
    apply Ev.succ
    unfold f32_broughamref31_Came_L20
    rw [u64_id (e := (l.getD i.toNat (0, 0)).1 - d) (by omega) (by omega), u64_id (e := (l.getD i.toNat (0, 0)).2 - d) (by omega) (by omega), i64_id (by omega) (by omega)]
    refine Ev.pos (by simp only [decide_eq_true_eq]; omega) (Ev.guard (by omega) (Ev.guard (by omega) (Ev.guard (by simp only [List.length_singleton, maxLen]; omega) ?_)))
    refine (shift_loop l hl d hd x0 x1 x2 k (i + 1) _ (by omega) (by simp only [List.length_append, List.length_singleton]; omega) (by rw [e2]; exact c4.weak (by omega))).mono ?_
    rintro _ rfl
    rw [e1, e2]; simp
theorem refboard_end {w most : Int} {L : Bl} (h : Inv w most L) {a b : Int} (ha : 0 ≤ a ∧ a < b ∧ b ≤ B) :
    Ev (fun n => if (0 : Int) ≤ 0 ∧ 0 < (((jn a b L).length : Nat) : Int) then
              if (((((jn a b L).getD 0 (0, 0)).1) : Int) == 0) = true then
                if (0 : Int) ≤ 0 ∧ 0 < (((jn a b L).length : Nat) : Int) then
                if cutOk (jn a b L).length (some 1) none none then
                if (decide (((((((jn a b L).take (jn a b L).length).drop 1).length : Nat) : Int) : Int) > most)) = true then
                  some (false, w, most, L)
                else
                  (f32_broughamref31_Came_L20 n (((jn a b L).take (jn a b L).length).drop 1) (((jn a b L).getD 0 (0, 0)).2) [] 0 w most L 0 0).bind fun w124 =>
                  some (true, (IntKind.wrap .u32 (w124.2.2.1 + (IntKind.wrap .u32 w124.1))), w124.2.2.2.1, w124.2.1)
                else none
                else none
              else
                if (decide (((((jn a b L).length : Nat) : Int) : Int) > most)) = true then
                  some (false, w, most, L)
                else
                  (f32_broughamref31_Came_L20 n (jn a b L) 0 [] 0 w most L 0 0).bind fun w131 =>
                  some (true, (IntKind.wrap .u32 (w131.2.2.1 + (IntKind.wrap .u32 w131.1))), w131.2.2.2.1, w131.2.1)
              else none) (fun r => r = ((res w most L a b).1, (res w most L a b).2.1, most, (res w most L a b).2.2)) := by
  have hj := jn_ch L (-1) a b (by omega) ha.2.1 ha.2.2 (h.hc.weak (by omega))
  have hn := jn_len L a b
  have hne := jn_ne L a b
  have hlm := h.hl; have hm := h.hm; have hw := h.hw
  cases hJ : jn a b L with
  | nil => exact absurd hJ hne
  | cons p r =>
    rw [res_cons hJ]
    rw [hJ] at hj hn
    obtain ⟨c1, c2, c3, c4⟩ := hj
    have c3' : p.2 ≤ 1048576 := c3
    simp only [List.length_cons] at hn
    have g0 : (p :: r).getD 0 (0, 0) = p := rfl
    have gd : ((p :: r).take (p :: r).length).drop 1 = r := by rw [List.take_length]; rfl
    rw [gd, g0]
    refine Ev.guard (by simp only [List.length_cons]; omega) ?_
    by_cases z : p.1 = 0
    · rw [if_pos z]
      refine Ev.pos (by simp [z]) (Ev.guard (by simp only [List.length_cons]; omega) (Ev.guard (by simp [cutOk]; omega) (Ev.neg (by simp only [decide_eq_true_eq]; omega) ?_)))
      refine Ev.bind (shift_loop r (by omega) p.2 (by omega) w most L r.length 0 [] (by omega) (by simp) (c4.weak (by omega))) ?_
      rintro _ rfl
      refine Ev.some ?_
      rw [w_u32, w_u32, show r.drop (0 : Int).toNat = r from rfl, List.nil_append]
      dsimp only
      rw [show (w + p.2 % 4294967296) % 4294967296 = (w + p.2) % 4294967296 by omega]
    · rw [if_neg z]
      refine Ev.neg (by simpa using z) ?_
      refine Ev.ite (fun q => Ev.some ?_) (fun q => ?_)
      · simp only [decide_eq_true_eq, List.length_cons] at q
        rw [if_pos (by omega)]
      · simp only [decide_eq_true_eq, List.length_cons] at q
        rw [if_neg (by omega)]
        refine Ev.bind (shift_loop (p :: r) (by simp only [List.length_cons]; omega) 0 (by omega) w most L (p :: r).length 0 [] (by simp) (by simp) ⟨by omega, c2, c3, c4⟩) ?_
        rintro _ rfl
        refine Ev.some ?_
        rw [show (p :: r).drop (0 : Int).toNat = p :: r from rfl, List.nil_append]
        dsimp only
        rw [show IntKind.wrap .u32 0 = 0 from rfl, Int.add_zero, u32_id hw.1 hw.2]
        have e : (p :: r).map (fun q => (q.1 - 0, q.2 - 0)) = p :: r := by
          rw [List.map_congr_left (g := id) (fun q _ => by show (q.1 - 0, q.2 - 0) = q; rw [Int.sub_zero, Int.sub_zero]), List.map_id]
        rw [e]
theorem refahead_is {a b : Int} (ha : U32 a) (hb : U32 b) : f126_broughamref04_ahead a b = some ((b - a) % 4294967296) := by
  unfold f126_broughamref04_ahead
  rw [i64_id (e := b) (by omega) (by omega), i64_id (e := a) (by omega) (by omega), i64_id (e := b - a) (by omega) (by omega), i64_id (e := b - a + 4294967296) (by omega) (by omega)]
  by_cases c : b - a < 0
  · rw [if_pos (by simpa using c)]; congr 1; omega
  · rw [if_neg (by simpa using c)]; congr 1; omega
theorem refwithin_is {x w : Int} (hx : U32 x) (hw : U32 w) : f87_broughamref04_Within x w 1048576 = some (decide ((x - w) % 4294967296 < 1048576)) := by
  unfold f87_broughamref04_Within
  rw [refahead_is hw hx]; rfl
theorem refcame_ev {w most : Int} {L : Bl} (h : Inv w most L) {x many : Int} (hx : U32 x) :
    Ev (fun n => f32_broughamref31_Came n w most L x many) (fun r => r = ((cm w most L x many).1, (cm w most L x many).2.1, most, (cm w most L x many).2.2)) := by
  have hw := h.hw; have hlm := h.hl; have hm := h.hm
  unfold f32_broughamref31_Came cm
  refine Ev.ite (fun c => Ev.some ?_) (fun c1 => ?_)
  · simp only [decide_eq_true_eq] at c; rw [if_pos (.inl c)]
  simp only [decide_eq_true_eq] at c1
  refine Ev.ite (fun c => Ev.some ?_) (fun c2 => ?_)
  · simp only [decide_eq_true_eq] at c; rw [if_pos (.inr c)]
  simp only [decide_eq_true_eq] at c2
  rw [if_neg (by omega)]
  have e1 : IntKind.wrap .u32 (x + IntKind.wrap .u32 many) = (x + many) % 4294967296 := by rw [w_u32, w_u32]; omega
  rw [e1]
  refine Ev.bind (Ev.of (refdiff_is hx hw) rfl) ?_
  rintro _ rfl
  refine Ev.bind (Ev.of (refdiff_is (a := (x + many) % 4294967296) ⟨by omega, by omega⟩ hw) rfl) ?_
  rintro _ rfl
  refine Ev.ite (fun c => ?_) (fun c3 => ?_)
  · simp only [decide_eq_true_eq] at c; rw [if_pos c]
    refine Ev.bind (Ev.of (refwithin_is hx hw) rfl) ?_
    rintro _ rfl
    unfold nearB
    refine Ev.ite (fun c4 => Ev.some ?_) (fun c4 => ?_)
    · rw [if_pos c4]
    · rw [if_neg c4]
      refine Ev.bind (Ev.of (refwithin_is hw hx) rfl) ?_
      rintro _ rfl
      exact Ev.some rfl
  simp only [decide_eq_true_eq] at c3
  rw [if_neg c3]
  refine Ev.ite (fun c4 => ?_) (fun c4 => ?_)
  · simp only [decide_eq_true_eq] at c4
    rw [if_pos c4]
    refine Ev.neg (by simp) ?_
    refine Ev.ite (fun c5 => Ev.some ?_) (fun c5 => ?_)
    · simp only [decide_eq_true_eq] at c5; rw [if_pos (.inr c5)]
    simp only [decide_eq_true_eq] at c5
    rw [if_neg (by omega), show IntKind.wrap .u64 0 = 0 from rfl, u64_id (by omega) (by omega)]
    refine Ev.bind (join_is L (by omega) 0 0 _ (by omega) h.hc) ?_
    rintro _ rfl
    exact refboard_end h ⟨by omega, by omega, by show _ ≤ (1048576 : Int); omega⟩
  · simp only [decide_eq_true_eq] at c4
    rw [if_neg c4]
    refine Ev.ite (fun c5 => Ev.some ?_) (fun c5 => ?_)
    · simp only [decide_eq_true_eq] at c5; rw [if_pos (.inl c5)]
    simp only [decide_eq_true_eq] at c5
    refine Ev.ite (fun c6 => Ev.some ?_) (fun c6 => ?_)
    · simp only [decide_eq_true_eq] at c6; rw [if_pos (.inr c6)]
    simp only [decide_eq_true_eq] at c6
    have hab : df x w < df ((x + many) % 4294967296) w := by unfold df at c3 c4 c5 c6 ⊢; omega
    rw [if_neg (by omega), u64_id (e := df x w) (by omega) (by omega), u64_id (by omega) (by omega)]
    refine Ev.bind (join_is L (by omega) 0 _ _ hab h.hc) ?_
    rintro _ rfl
    exact refboard_end h ⟨by omega, hab, by show _ ≤ (1048576 : Int); omega⟩
theorem blocks_loop (w most : Int) (L : Bl) (hl : L.length ≤ 500) (hw : U32 w) (hc : ∀ p ∈ L, (0 ≤ p.1 ∧ p.1 ≤ 1048576) ∧ 0 ≤ p.2 ∧ p.2 ≤ 1048576) : ∀ (d : Nat) (i : Int) (out : Bl) (hi : 0 ≤ i ∧ i + d = L.length) (ho : out.length ≤ i.toNat),
    Ev (fun n => f38_broughamref31_Blocks_L3 n out i w most L) (fun r => r = out ++ emb w (L.drop i.toNat))
  | 0, i, out, hi, ho => by
    apply Ev.succ
    unfold f38_broughamref31_Blocks_L3
    refine Ev.neg (by simp only [decide_eq_true_eq]; omega) (Ev.some ?_)
    rw [List.drop_eq_nil_of_le (by omega)]; simp
  | d + 1, i, out, hi, ho => by
    have e1 : L.drop i.toNat = L.getD i.toNat (0, 0) :: L.drop (i.toNat + 1) := drop_cons (by omega) _
    have e2 : (i + 1).toNat = i.toNat + 1 := by omega
    have hp := hc _ (getD_mem (show i.toNat < L.length by omega) (0, 0))
    apply Ev.succ
    unfold f38_broughamref31_Blocks_L3
    rw [u32_id (e := (L.getD i.toNat (0, 0)).1) (by omega) (by omega), u32_id (e := (L.getD i.toNat (0, 0)).2) (by omega) (by omega), w_u32, w_u32, i64_id (by omega) (by omega)]
    refine Ev.pos (by simp only [decide_eq_true_eq]; omega) (Ev.guard (by omega) (Ev.guard (by omega) (Ev.guard (by simp only [List.length_singleton, maxLen]; omega) ?_)))
    refine (blocks_loop w most L hl hw hc d (i + 1) _ (by omega) (by simp only [List.length_append, List.length_singleton]; omega)).mono ?_
    rintro _ rfl
    rw [e1, e2]; simp [em]
theorem blocks_is {w most : Int} {L : Bl} (h : Inv w most L) : Ev (fun n => f38_broughamref31_Blocks n w most L) (fun r => r = emb w L) := by
  have hlm := h.hl; have hm := h.hm
  unfold f38_broughamref31_Blocks
  have hc : ∀ p ∈ L, (0 ≤ p.1 ∧ p.1 ≤ 1048576) ∧ 0 ≤ p.2 ∧ p.2 ≤ 1048576 := fun p hp => by
    have := Ch.mem h.hc p hp
    have h3 : p.2 ≤ 1048576 := this.2.2
    omega
  refine Ev.bind (blocks_loop w most L (by omega) h.hw hc L.length 0 [] (by omega) (by simp)) ?_
  rintro _ rfl
  exact Ev.some (by simp)
theorem playLoop (wait : Int) (l : List (Int × Int)) (hl : l.length ≤ 100) (most : Int) : ∀ (d : Nat) (i : Int) (hi : 0 ≤ i ∧ i + d = l.length) (w : Int) (L : Bl) (h : Inv w most L),
    Ev (fun n => f7_broughamlaw31_SackPlays_L13 n wait l i w most (emb w L) w most L) (fun r => ∃ w' L', r = .inr (w', most, emb w' L', w', most, L') ∧ Inv w' most L')
  | 0, i, hi, w, L, h => by
    apply Ev.succ
    unfold f7_broughamlaw31_SackPlays_L13
    exact Ev.neg (by simp only [decide_eq_true_eq]; omega) (Ev.some ⟨w, L, rfl, h⟩)
  | d + 1, i, hi, w, L, h => by
    apply Ev.succ
    unfold f7_broughamlaw31_SackPlays_L13
    refine Ev.pos (by simp only [decide_eq_true_eq]; omega) (Ev.guard (by omega) (Ev.guard (by omega) ?_))
    have hx : U32 (IntKind.wrap .u32 (wait + (l.getD i.toNat (0, 0)).1)) := by rw [w_u32]; exact ⟨by omega, by omega⟩
    revert hx
    generalize IntKind.wrap .u32 (wait + (l.getD i.toNat (0, 0)).1) = x
    intro hx
    generalize (l.getD i.toNat (0, 0)).2 = many
    have hI := cm_inv h (many := many) hx
    refine Ev.bind (refcame_ev h hx) ?_
    rintro _ rfl
    refine Ev.guard (by omega) (Ev.guard (by omega) ?_)
    refine Ev.bind (came_ev h hx) ?_
    rintro _ rfl
    refine Ev.neg (by simp) ?_
    unfold f34_sack_Board_Wait f37_sack_Board_Blocks
    refine Ev.bind (Ev.of rfl rfl) ?_
    rintro _ rfl
    refine Ev.neg (by simp) ?_
    have hll := hI.hl; have hmm := hI.hm
    have hel : (emb (cm w most L x many).2.1 (cm w most L x many).2.2).length ≤ 1000 := by rw [List.length_map]; omega
    refine Ev.bind (Ev.of (r := (emb (cm w most L x many).2.1 (cm w most L x many).2.2, (cm w most L x many).2.1, most, emb (cm w most L x many).2.1 (cm w most L x many).2.2)) (by rw [clone_is _ hel]; rfl) rfl) ?_
    rintro _ rfl
    refine Ev.bind (plain_is _ hel) ?_
    rintro _ rfl
    refine Ev.bind (blocks_is hI) ?_
    rintro _ rfl
    refine Ev.bind (same_is _ hel) ?_
    rintro _ rfl
    refine Ev.neg (by simp) ?_
    rw [i64_id (by omega) (by omega)]
    exact playLoop wait l hl most d (i + 1) (by omega) _ _ hI
theorem sayEnd (w most : Int) (X : Bl) (hw : U32 w) (hX : Nums X) (hl : X.length ≤ 1000) (S : Bl) (hS : S = X.take (if 4 < ((X.length : Nat) : Int) then 4 else ((X.length : Nat) : Int)).toNat) :
    Ev (fun n => (f39_sack_Board_Say n w most X).bind fun r456_0 =>
            (f40_broughamref31_Option n w S).bind fun r538_0 =>
            if (r456_0.1 == r538_0.2) = true then
              if ((strOfNums r456_0.2.2.2.2.2).toList == (strOfNums r538_0.1).toList) = true then
                (f41_broughamlaw31_alive n).bind fun r622_0 =>
                some r622_0
              else
                some false
            else
              some false) (fun r => r = true) := by
  have hSn : Nums S := fun p hp => hX p (by rw [hS] at hp; exact List.mem_of_mem_take hp)
  have hSl : S.length ≤ 1000 := by rw [hS, List.length_take]; omega
  have hsay : Ev (fun n => f39_sack_Board_Say n w most X) (fun r => r.1 = (if rightB w S = true ∧ S ≠ [] then true else false) ∧ r.2.2.2.2.2 = (if rightB w S = true ∧ S ≠ [] then bodyOf w S else [])) := by
    unfold f39_sack_Board_Say
    rw [← hS]
    refine Ev.guard (by simp only [cutOk, Option.getD_none, Option.getD_some]; refine ⟨by omega, ?_, ?_, trivial⟩ <;> split <;> omega) ?_
    refine Ev.bind (option_is w S hSl) ?_
    rintro _ rfl
    refine Ev.some ?_
    by_cases c : rightB w S = true ∧ S ≠ []
    · simp only [if_pos c]; exact ⟨trivial, trivial⟩
    · simp only [if_neg c]; exact ⟨trivial, trivial⟩
  refine Ev.bind hsay ?_
  rintro r ⟨h1, h2⟩
  refine Ev.bind (refoption_is w hw S hSn hSl) ?_
  rintro _ rfl
  rw [h1, h2]
  by_cases c : rightB w S = true ∧ S ≠ []
  · rw [if_pos c, if_pos c, if_pos c]
    refine Ev.pos rfl (Ev.pos (by rw [str_refl]) ?_)
    exact Ev.bind alive_ev (fun r hr => Ev.some hr)
  · rw [if_neg c, if_neg c, if_neg c]
    refine Ev.pos rfl (Ev.pos (by rw [str_refl]) ?_)
    exact Ev.bind alive_ev (fun r hr => Ev.some hr)
theorem playAll (wait : Int) (hw : U32 wait) (l : List (Int × Int)) (hl : l.length ≤ 100) (K : Int) (hK : 1 ≤ K ∧ K ≤ 64) :
    Ev (fun n => (f7_broughamlaw31_SackPlays_L13 n wait l 0 wait K [] wait K []).bind fun w450 =>
        match w450 with
        | .inl e451 =>
          some e451
        | .inr e452 =>
          (f38_broughamref31_Blocks n e452.2.2.2.1 e452.2.2.2.2.1 e452.2.2.2.2.2).bind fun r453_0 =>
          if (decide ((((r453_0.length : Nat) : Int) : Int) > 4)) = true then
            if cutOk r453_0.length none (some 4) none then
            (f39_sack_Board_Say n e452.1 e452.2.1 e452.2.2.1).bind fun r456_0 =>
            (f40_broughamref31_Option n e452.2.2.2.1 (r453_0.take 4)).bind fun r538_0 =>
            if (r456_0.1 == r538_0.2) = true then
              if ((strOfNums r456_0.2.2.2.2.2).toList == (strOfNums r538_0.1).toList) = true then
                (f41_broughamlaw31_alive n).bind fun r622_0 =>
                some r622_0
              else
                some false
            else
              some false
            else none
          else
            (f39_sack_Board_Say n e452.1 e452.2.1 e452.2.2.1).bind fun r632_0 =>
            (f40_broughamref31_Option n e452.2.2.2.1 r453_0).bind fun r633_0 =>
            if (r632_0.1 == r633_0.2) = true then
              if ((strOfNums r632_0.2.2.2.2.2).toList == (strOfNums r633_0.1).toList) = true then
                (f41_broughamlaw31_alive n).bind fun r634_0 =>
                some r634_0
              else
                some false
            else
              some false) (fun r => r = true) := by
  refine Ev.bind (playLoop wait l hl K l.length 0 (by omega) wait [] ⟨hw, hK, trivial, by simp; omega⟩) ?_
  rintro _ ⟨w, L, rfl, hI⟩
  have hlm := hI.hl
  have hel : (emb w L).length ≤ 1000 := by rw [List.length_map]; omega
  refine Ev.bind (blocks_is hI) ?_
  rintro _ rfl
  refine Ev.ite (fun c => ?_) (fun c => ?_)
  · simp only [decide_eq_true_eq] at c
    refine Ev.guard (by simp [cutOk]; simp at c; omega) ?_
    exact sayEnd w K (emb w L) hI.hw (emb_nums w L) hel _ (by rw [if_pos (by omega)]; rfl)
  · simp only [decide_eq_true_eq] at c
    exact sayEnd w K (emb w L) hI.hw (emb_nums w L) hel _ (by rw [if_neg (by omega), Int.toNat_natCast, List.take_length])
theorem SackPlays (wait : Int) (h0 : K.ok (.int .u32) wait) (most : Int) (h1 : K.ok (.int .i64) most) (l : List (Int × Int)) (h2 : K.ok (.slice (.pair (.int .u32) (.int .i64))) l) : ∃ n, f7_broughamlaw31_SackPlays n wait most l = some true := by
  have hw : U32 wait := ok_u32 h0
  apply Ev.true
  unfold f7_broughamlaw31_SackPlays f31_sack_New
  refine Ev.ite (fun _ => Ev.some rfl) fun a1 => ?_
  simp only [decide_eq_true_eq] at a1
  refine Ev.bind (Ev.of rfl rfl) ?_
  rintro _ rfl
  refine Ev.ite (fun c => ?_) (fun c => ?_)
  · simp only [decide_eq_true_eq] at c
    have e : (if 64 < (if most < 1 then 1 else most) then 64 else (if most < 1 then 1 else most)) = 1 := by rw [if_pos c]; rfl
    refine Ev.neg (by simp) ?_
    dsimp only
    rw [e]
    exact playAll wait hw l (by omega) 1 (by omega)
  · simp only [decide_eq_true_eq] at c
    refine Ev.ite (fun c2 => ?_) (fun c2 => ?_)
    · simp only [decide_eq_true_eq] at c2
      have e : (if 64 < (if most < 1 then 1 else most) then 64 else (if most < 1 then 1 else most)) = 64 := by rw [if_neg c, if_pos (by omega)]
      dsimp only
      rw [e]
      exact playAll wait hw l (by omega) 64 (by omega)
    · simp only [decide_eq_true_eq] at c2
      have e : (if 64 < (if most < 1 then 1 else most) then 64 else (if most < 1 then 1 else most)) = most := by rw [if_neg c, if_neg (by omega)]
      dsimp only
      rw [e]
      exact playAll wait hw l (by omega) most (by omega)
end Go.Proofs.YtjoibacjpapncaaF31b
