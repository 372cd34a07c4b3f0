/- CaptureReads: the capture of any bytes, or that they are none's: of the functions that text F34 prints. Conditions: none. -/
import Derived.Test.YtjoibacjpapncaaPureCaptureWrites
namespace Go.Proofs.YtjoibacjpapncaaF34
open Go Zed
set_option linter.unusedVariables false
set_option linter.unusedSimpArgs false

/-- What the reference takes up, before it asks whether it is written so. -/
def rds : Nat → Int → List Int → Option (List R)
  | 0, _, _ => some []
  | k + 1, tick, rest => match go rest [4, 1, 2] with
    | some ([a, h, c], more) => if c > (more.length : Int) then none else if tick + a > 2147483647 then none else
        (rds k (tick + a) (more.drop c.toNat)).map fun l => (tick + a, h / 128, h % 128, more.take c.toNat) :: l
    | _ => none
def got (K k : Nat) (tick : Int) (rest : List Int) : Option (List R) := if K ≤ 1024 then rds k tick rest else none
set_option maxRecDepth 20000 in
theorem rdsLoop (b head : List Int) (K : Nat) (hh : head.getD 1 0 = (K : Int)) (hh2 : 1 < head.length) (k : Nat) : ∀ (t : Nat), t + k = K → t ≤ 1024 → ∀ (tick : Int) (rest : List Int) (out : List R), Bytes rest → rest.length ≤ 90000 → out.length = t → 0 ≤ tick → tick ≤ 2147483647 →
    Ev (fun n => f29_broughamref34_Decode_L7 n b head rest (out.map conv) tick (t : Int)) (fun r => r = match got K k tick rest with | none => .inl ([], false) | some p => .inr (b, (out ++ p).map conv)) := by
  induction k with
  | zero =>
    intro t ht ht2 tick rest out hb hl ho h0 h1
    apply Ev.succ
    simp only [f29_broughamref34_Decode_L7]
    unfold got
    rw [hh, if_pos (by omega), rds]
    refine Ev.guard ⟨by decide, by omega⟩ (Ev.neg (by simp; omega) (Ev.some ?_))
    dsimp only
    rw [List.append_nil]
  | succ k ih =>
    intro t ht ht2 tick rest out hb hl ho h0 h1
    apply Ev.succ
    simp only [f29_broughamref34_Decode_L7]
    rw [hh]
    refine Ev.guard ⟨by decide, by omega⟩ (Ev.pos (by simp; omega) ?_)
    refine Ev.bind (all_is rest [4, 1, 2] (by omega) hb (by simp)) ?_
    rintro _ rfl
    have hnone : (∀ hK : K ≤ 1024, rds (k + 1) tick rest = none) → (.inl ([], false) : (List S × Bool) ⊕ (List Int × List S)) = match got K (k + 1) tick rest with | none => .inl ([], false) | some p => .inr (b, (out ++ p).map conv) := by
      intro h
      unfold got
      by_cases hK : K ≤ 1024
      · rw [if_pos hK, h hK]
      · rw [if_neg hK]
    rcases go3 hb with ⟨g, g2⟩ | ⟨a, h, c, g, g2, ga, gh, gc, g3⟩
    · have hn := hnone (fun _ => by rw [rds, g])
      rw [g]
      exact Ev.pos rfl (Ev.some hn)
    · have hml : (rest.drop 7).length = rest.length - 7 := by simp
      have hr : ∀ hK : K ≤ 1024, rds (k + 1) tick rest = if c > ((rest.drop 7).length : Int) then none else if tick + a > 2147483647 then none else
        (rds k (tick + a) ((rest.drop 7).drop c.toNat)).map fun l => (tick + a, h / 128, h % 128, (rest.drop 7).take c.toNat) :: l := fun _ => by rw [rds, g]
      rw [g]
      generalize rest.drop 7 = more at hml g3 hr ⊢
      have hbm : Bytes more := by rw [g3] at hb; exact hb.right.right.right
      unfold ans
      dsimp only
      have x0 : ([a, h, c] : List Int).getD 0 0 = a := rfl
      have x1 : ([a, h, c] : List Int).getD 1 0 = h := rfl
      have x2 : ([a, h, c] : List Int).getD 2 0 = c := rfl
      rw [x0, x1, x2, u64_id (show (0 : Int) ≤ ((more.length : Nat) : Int) by omega) (by omega)]
      refine Ev.neg (by simp) (Ev.guard ⟨by decide, by simp⟩ (Ev.ite (fun d => Ev.some (hnone fun hK => ?_)) fun d => (Ev.ite (fun d1 => Ev.some (hnone fun hK => ?_)) fun d1 => Ev.guard ⟨by decide, by simp⟩ (Ev.ite (fun d2 => Ev.some (hnone fun hK => ?_)) fun d2 => ?_))))
      · rw [decide_eq_true_eq] at d
        rw [hr hK, if_pos d]
      · rw [decide_eq_true_eq] at d1
        omega
      · rw [decide_eq_true_eq] at d d2
        rw [u64_id (by omega) (by omega)] at d2
        rw [hr hK, if_neg d, if_pos d2]
      · rw [decide_eq_true_eq] at d d1 d2
        rw [u64_id (by omega) (by omega)] at d2
        have et : IntKind.wrap .u64 (tick + a) = tick + a := u64_id (by omega) (by omega)
        have et2 : IntKind.wrap .i64 (tick + a) = tick + a := i64_id (by omega) (by omega)
        have eh : IntKind.wrap .i64 (IntKind.wrap .u64 (Int.tdiv h 128)) = h / 128 := by
          rw [tdiv_e (by omega), u64_id (by omega) (by omega), i64_id (by omega) (by omega)]
        have ep : IntKind.wrap .i64 (Int.tmod h 128) = h % 128 := by
          rw [tmod_e (by omega), i64_id (by omega) (by omega)]
        rw [et, et2, eh, ep]
        have es : ((more.take more.length).drop c.toNat) = more.drop c.toNat := by rw [List.take_length]
        refine Ev.guard ⟨by decide, by simp⟩ (Ev.guard ⟨by decide, by simp⟩ (Ev.guard ⟨by decide, by simp⟩ (Ev.guard ?_ (Ev.guard ?_ (Ev.guard ⟨by decide, by simp⟩ (Ev.guard ?_ ?_))))))
        · simp [cutOk]; omega
        · simp only [List.length_map, List.length_cons, List.length_nil, maxLen]; omega
        · simp [cutOk]; omega
        · rw [es, show IntKind.wrap .u64 ((t : Int) + 1) = ((t + 1 : Nat) : Int) by rw [u64_id] <;> omega]
          have hout : out.map conv ++ [(tick + a, h / 128, h % 128, strOfNums (more.take c.toNat))] = (out ++ [(tick + a, h / 128, h % 128, more.take c.toNat)]).map conv := by
            rw [List.map_append]; rfl
          rw [hout]
          have := ih (t + 1) (by omega) (by omega) (tick + a) (more.drop c.toNat) (out ++ [(tick + a, h / 128, h % 128, more.take c.toNat)]) (hbm.drop _) (by simp only [List.length_drop]; omega) (by simp; omega) (by omega) (by omega)
          refine this.mono ?_
          rintro _ rfl
          unfold got
          by_cases hK : K ≤ 1024
          · rw [if_pos hK, if_pos hK, hr hK, if_neg d, if_neg d2]
            cases rds k (tick + a) (more.drop c.toNat) with
            | none => rfl
            | some p => simp
          · rw [if_neg hK, if_neg hK]

/-- What is written is taken up, whatever stands behind it. -/
theorem rds_encs (tail : List Int) : ∀ (l : List R) (last : Int), 0 ≤ last → rgt last l = true → rds l.length last (encs last l ++ tail) = some l
  | [], last, h0, h => rfl
  | r :: l, last, h0, h => by
    rw [rgt, Bool.and_eq_true, okR_iff] at h
    obtain ⟨⟨r1, r2, r3, r4, r5, r6, r7⟩, h2⟩ := h
    have g1 := go_be 4 (r.1 - last) (be 1 (r.2.1 * 128 + r.2.2.1) ++ (be 2 (r.2.2.2.length : Int) ++ (r.2.2.2 ++ (encs r.1 l ++ tail)))) [1, 2] (by omega) (by rw [p4]; omega)
    have g2 := go_be 1 (r.2.1 * 128 + r.2.2.1) (be 2 (r.2.2.2.length : Int) ++ (r.2.2.2 ++ (encs r.1 l ++ tail))) [2] (by omega) (by rw [p1]; omega)
    have g3 := go_be 2 (r.2.2.2.length : Int) (r.2.2.2 ++ (encs r.1 l ++ tail)) [] (by omega) (by rw [q1]; omega)
    rw [show ((4 : Nat) : Int) = 4 from rfl] at g1
    rw [show ((1 : Nat) : Int) = 1 from rfl] at g2
    rw [show ((2 : Nat) : Int) = 2 from rfl] at g3
    have hg : go (encs last (r :: l) ++ tail) [4, 1, 2] = some ([r.1 - last, r.2.1 * 128 + r.2.2.1, (r.2.2.2.length : Int)], r.2.2.2 ++ (encs r.1 l ++ tail)) := by
      rw [encs, recB]
      simp only [List.append_assoc]
      rw [g1, g2, g3]
      rfl
    rw [List.length_cons, rds, hg]
    dsimp only
    rw [if_neg (by simp; omega), if_neg (by omega), Int.toNat_natCast, List.drop_left, List.take_left, show last + (r.1 - last) = r.1 by omega, rds_encs tail l r.1 (by omega) h2]
    rw [show (r.2.1 * 128 + r.2.2.1) / 128 = r.2.1 by omega, show (r.2.1 * 128 + r.2.2.1) % 128 = r.2.2.1 by omega]
    rfl
theorem rds_len : ∀ (k : Nat) (tick : Int) (rest : List Int) (l : List R), Bytes rest → rds k tick rest = some l → l.length = k ∧ tot l ≤ rest.length ∧ ∀ r ∈ l, Bytes r.2.2.2
  | 0, tick, rest, l, hb, h => by simp [rds] at h; subst h; exact ⟨rfl, Nat.zero_le _, by simp⟩
  | k + 1, tick, rest, l, hb, h => by
    rw [rds] at h
    rcases go3 hb with ⟨g, g2⟩ | ⟨a, hh, c, g, g2, ga, gh, gc, g3⟩
    · rw [g] at h; cases h
    · rw [g] at h
      dsimp only at h
      have hml : (rest.drop 7).length = rest.length - 7 := by simp
      generalize rest.drop 7 = more at hml g3 h
      have hbm : Bytes more := by rw [g3] at hb; exact hb.right.right.right
      split at h
      · cases h
      · split at h
        · cases h
        · rename_i d1 d2
          obtain ⟨l', h1, rfl⟩ := Option.map_eq_some_iff.1 h
          obtain ⟨i1, i2, i3⟩ := rds_len k _ _ l' (hbm.drop _) h1
          have hlen : (more.take c.toNat).length = c.toNat := by rw [List.length_take]; omega
          refine ⟨by simp [i1], ?_, ?_⟩
          · simp only [tot, hlen]
            simp only [List.length_drop] at i2
            omega
          · intro r hr
            rcases List.mem_cons.1 hr with rfl | hr
            · exact hbm.take _
            · exact i3 r hr

theorem refDec_is (b : List Int) (hb : Bytes b) (hl : b.length ≤ 20000) : Ev (fun n => f29_broughamref34_Decode n b) (fun r => r = match decOf b with | none => ([], false) | some l => (l.map conv, true)) := by
  unfold f29_broughamref34_Decode
  refine Ev.bind (all_is b [4, 2] (by omega) hb (by simp)) ?_
  rintro _ rfl
  have hnone : (∀ l, decOf b ≠ some l) → (([], false) : List S × Bool) = match decOf b with | none => ([], false) | some l => (l.map conv, true) := by
    intro h
    cases hd : decOf b with
    | none => rfl
    | some l => exact absurd hd (h l)
  -- of what is written
  have hwr : ∀ l, decOf b = some l → right l = true ∧ b = be 4 1112690517 ++ (be 2 (l.length : Int) ++ (encs 0 l ++ be 4 (sumOf (bodyB l)))) := by
    intro l h
    obtain ⟨h1, h2, _⟩ := enc_dec b hb l h
    refine ⟨h1, ?_⟩
    rw [← h2]
    simp only [encOf, bodyB, headB, List.append_assoc]
  by_cases h6 : 6 ≤ b.length
  · obtain ⟨m, k, g, gk, g2⟩ := go2 hb h6
    rw [g]
    have hrb : Bytes (b.drop 6) := hb.drop 6
    have hrl : (b.drop 6).length = b.length - 6 := by simp
    have hpar : ∀ l, decOf b = some l → k.toNat = l.length ∧ l.length ≤ 1024 ∧ rds k.toNat 0 (b.drop 6) = some l := by
      intro l h
      obtain ⟨h1, h2⟩ := hwr l h
      unfold right at h1
      rw [Bool.and_eq_true, decide_eq_true_eq] at h1
      have g1 := go_be 4 1112690517 (be 2 (l.length : Int) ++ (encs 0 l ++ be 4 (sumOf (bodyB l)))) [2] (by omega) (by rw [p4]; omega)
      have g3 := go_be 2 (l.length : Int) (encs 0 l ++ be 4 (sumOf (bodyB l))) [] (by omega) (by rw [q1]; omega)
      rw [show ((4 : Nat) : Int) = 4 from rfl] at g1
      rw [show ((2 : Nat) : Int) = 2 from rfl] at g3
      rw [← h2, g3] at g1
      rw [g] at g1
      simp only [go, Option.map_some, Option.some.injEq, Prod.mk.injEq, List.cons.injEq, and_true] at g1
      obtain ⟨⟨_, e1⟩, e2⟩ := g1
      refine ⟨by omega, h1.1, ?_⟩
      rw [e2, e1, Int.toNat_natCast]
      exact rds_encs _ l 0 (by omega) h1.2
    generalize b.drop 6 = rest at hrb hrl hpar ⊢
    unfold ans
    dsimp only
    obtain ⟨K, rfl⟩ : ∃ j : Nat, k = (j : Int) := ⟨k.toNat, by omega⟩
    rw [Int.toNat_natCast] at hpar
    refine Ev.neg (by simp) ?_
    refine Ev.bind (rdsLoop b [m, (K : Int)] K rfl (by simp) K 0 (by omega) (by omega) 0 rest [] hrb (by omega) rfl (by omega) (by omega)) ?_
    rintro _ rfl
    cases hgot : got K K 0 rest with
    | none =>
      refine Ev.some (hnone fun l h => ?_)
      obtain ⟨p1, p2, p3⟩ := hpar l h
      unfold got at hgot
      rw [if_pos (by omega), p3] at hgot
      cases hgot
    | some l =>
      have hgl : rds K 0 rest = some l ∧ K ≤ 1024 := by
        unfold got at hgot
        split at hgot
        · rename_i hK; exact ⟨hgot, hK⟩
        · cases hgot
      obtain ⟨l1, l2, l3⟩ := rds_len K 0 rest l hrb hgl.1
      dsimp only
      rw [List.nil_append]
      refine Ev.bind (refEnc_is l (by omega) (by omega) l3) ?_
      rintro _ rfl
      by_cases hr : right l = true
      · rw [if_pos hr]
        refine Ev.neg (by simp) ?_
        have heb : Bytes (encOf l) := encOf_bytes l l3
        have hse := str_eq heb hb
        by_cases he : encOf l = b
        · rw [decide_eq_true he] at hse
          refine Ev.neg (by rw [hse]; decide) (Ev.some ?_)
          have := dec_enc l hr
          rw [he] at this
          rw [this]
        · rw [decide_eq_false he] at hse
          refine Ev.pos (by rw [hse]; rfl) (Ev.some (hnone fun l' h => he ?_))
          obtain ⟨p1, p2, p3⟩ := hpar l' h
          rw [p3] at hgl
          have : l' = l := Option.some.inj hgl.1
          subst this
          exact (enc_dec b hb l' h).2.1
      · rw [if_neg hr]
        refine Ev.pos rfl (Ev.some (hnone fun l' h => hr ?_))
        obtain ⟨p1, p2, p3⟩ := hpar l' h
        rw [p3] at hgl
        have : l' = l := Option.some.inj hgl.1
        subst this
        exact (hwr l' h).1
  · have hg : go b [4, 2] = none := by
      simp only [go]
      by_cases h4 : (1 : Int) ≤ 4 ∧ (4 : Int) ≤ 8 ∧ (4 : Int) ≤ (b.length : Nat)
      · rw [if_pos h4, if_neg]
        · rfl
        · simp only [List.length_drop, show Int.toNat 4 = 4 from rfl]; omega
      · rw [if_neg h4]
    rw [hg]
    refine Ev.pos rfl (Ev.some (hnone fun l h => ?_))
    have := congrArg List.length (hwr l h).2
    simp [be_len] at this
    omega

theorem CaptureReads (b : List Int) (h0 : K.ok (.slice (.int .u8)) b) : ∃ n, f5_broughamlaw34_CaptureReads n b = some true := by
  apply Ev.true
  unfold f5_broughamlaw34_CaptureReads
  have hb := ok_bytes h0
  refine Ev.ite (fun _ => Ev.some rfl) fun a => ?_
  simp only [decide_eq_true_eq] at a
  refine Ev.bind (dec_is b hb (by omega)) ?_
  rintro _ rfl
  refine Ev.bind (refDec_is b hb (by omega)) ?_
  rintro _ rfl
  cases hd : decOf b with
  | none =>
    refine Ev.pos rfl ?_
    refine Ev.bind (plain_is [] (by simp)) ?_
    rintro _ rfl
    refine Ev.bind (same_is ([] : List S) (by simp)) ?_
    rintro _ rfl
    exact Ev.pos rfl (Ev.bind alive_ev (fun r hr => Ev.some hr))
  | some l =>
    have hl := (enc_dec b hb l hd).1
    unfold right at hl
    rw [Bool.and_eq_true, decide_eq_true_eq] at hl
    refine Ev.pos rfl ?_
    refine Ev.bind (plain_is l (by omega)) ?_
    rintro _ rfl
    refine Ev.bind (same_is (l.map conv) (by rw [List.length_map]; omega)) ?_
    rintro _ rfl
    exact Ev.pos rfl (Ev.bind alive_ev (fun r hr => Ev.some hr))
end Go.Proofs.YtjoibacjpapncaaF34
