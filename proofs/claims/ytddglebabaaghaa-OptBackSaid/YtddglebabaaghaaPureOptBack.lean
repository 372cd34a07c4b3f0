/- OptBack: what an option writes is read as it was, and what is read writes the option it was read of: of the functions that text F08b prints. Conditions: none. -/
import Derived.Test.YtddglebabaaghaaPureLib08b
namespace Go.Proofs.YtddglebabaaghaaF08b
open Go Zed
set_option linter.unusedVariables false
set_option linter.unusedSimpArgs false

theorem keyB_bytes (a : Int) (b : Bool) (c : Int) : Bytes (keyB a b c) := by
  unfold keyB; refine (be_bytes _ _).append ?_
  cases b
  · exact Bytes.nil
  · exact be_bytes _ _
theorem keyB_len (a : Int) (b : Bool) (c : Int) : (keyB a b c).length = if b then 16 else 8 := by
  unfold keyB; cases b <;> simp [be_len]
theorem pkey_back (a : Int) (b : Bool) (c : Int) (ha : U64 a) (hc : U64 c) : pkey 1 (keyB a b c) = (true, a, b, if b then c else 0) := by
  have h8 : (256 : Int) ^ 8 = 18446744073709551616 := p8
  have t1 : (be 8 a).take 8 = be 8 a := List.take_of_length_le (by rw [be_len]; omega)
  have n1 : num (be 8 a) = a := num_be 8 a (by omega) (by rw [h8]; exact ha)
  unfold pkey
  rw [if_pos rfl]
  cases b with
  | false =>
    have e : keyB a false c = be 8 a := by simp [keyB]
    rw [e, if_pos (be_len 8 a), t1, n1]; rfl
  | true =>
    have e : keyB a true c = be 8 a ++ be 8 c := rfl
    have l : (be 8 a ++ be 8 c).length = 16 := by simp [be_len]
    have t2 : (be 8 a ++ be 8 c).take 8 = be 8 a := by
      have := List.take_left (l₁ := be 8 a) (l₂ := be 8 c); rwa [be_len] at this
    have t3 : (be 8 a ++ be 8 c).drop 8 = be 8 c := by
      have := List.drop_left (l₁ := be 8 a) (l₂ := be 8 c); rwa [be_len] at this
    have t4 : (be 8 c).take 8 = be 8 c := List.take_of_length_le (by rw [be_len]; omega)
    rw [e, if_neg (by omega), if_pos l, t2, t3, t4, n1, num_be 8 c (by omega) (by rw [h8]; exact hc)]; rfl
theorem key_back {k : Int} {b : List Int} (hb : Bytes b) (h : (pkey k b).1 = true) : ∃ a an t, pkey k b = (true, a, an, t) ∧ U64 a ∧ U64 t ∧ k = 1 ∧ keyB a an t = b := by
  have h8 : (256 : Int) ^ 8 = 18446744073709551616 := p8
  unfold pkey at h ⊢
  split at h
  · rename_i hk
    split at h
    · rename_i hl
      rw [if_pos hk, if_pos hl]
      have n1 := num_take hb (s := 8) (by omega) (by omega)
      rw [h8] at n1
      refine ⟨_, _, _, rfl, n1, ⟨Int.le_refl _, by decide⟩, hk, ?_⟩
      unfold keyB
      rw [be_take hb (by omega) (by omega), List.take_of_length_le (by omega)]; simp
    · rename_i hl
      split at h
      · rename_i hl2
        rw [if_pos hk, if_neg hl, if_pos hl2]
        have n1 := num_take hb (s := 8) (by omega) (by omega)
        have n2 := num_take (hb.drop 8) (s := 8) (by omega) (by simp; omega)
        rw [h8] at n1 n2
        refine ⟨_, _, _, rfl, n1, n2, hk, ?_⟩
        unfold keyB
        rw [if_pos rfl, be_take hb (by omega) (by omega), be_take (hb.drop 8) (by omega) (by simp; omega), List.take_of_length_le (show (b.drop 8).length ≤ 8 by simp; omega), List.take_append_drop]
      · cases h
  · cases h

theorem joinB_bytes (a b c : Int) (d e : Bool) (f : Int) (hc : U8 c) : Bytes (joinB a b c d e f) := by
  unfold joinB
  refine ((((be_bytes _ _).append (be_bytes _ _)).append (Bytes.cons hc Bytes.nil)).append (Bytes.cons (bit_in d) Bytes.nil)).append ?_
  cases e
  · exact Bytes.nil
  · exact be_bytes _ _
theorem joinB_len (a b c : Int) (d e : Bool) (f : Int) : (joinB a b c d e f).length ≤ 18 := by
  unfold joinB; cases e <;> simp [be_len]
theorem join_go (a b c : Int) (d : Bool) (r : List Int) (ha : U32 a) (hb : U32 b) (hc : U8 c) : go (be 4 a ++ (be 4 b ++ (be 1 c ++ (be 1 (bit d) ++ r)))) [4, 4, 1, 1] = some ([a, b, c, bit d], r) := by
  have g1 := go_be 4 a (be 4 b ++ (be 1 c ++ (be 1 (bit d) ++ r))) [4, 1, 1] (by omega) (by rw [p4]; exact ha)
  have g2 := go_be 4 b (be 1 c ++ (be 1 (bit d) ++ r)) [1, 1] (by omega) (by rw [p4]; exact hb)
  have g3 := go_be 1 c (be 1 (bit d) ++ r) [1] (by omega) (by rw [p1]; exact hc)
  have g4 := go_be 1 (bit d) r [] (by omega) (by rw [p1]; exact bit_in d)
  rw [show ((4 : Nat) : Int) = 4 from rfl] at g1 g2
  rw [show ((1 : Nat) : Int) = 1 from rfl] at g3 g4
  rw [g1, g2, g3, g4]; rfl
theorem bit_le (d : Bool) : ¬ bit d > 1 := by cases d <;> decide
theorem bit_eq (d : Bool) : (bit d == 1) = d := by cases d <;> decide
theorem pjoin_back (a b c : Int) (d e : Bool) (f : Int) (ha : U32 a) (hb : U32 b) (hc : U8 c) (hf : U64 f) : pjoin 2 (joinB a b c d e f) = (true, a, b, c, d, e, if e then f else 0) := by
  have h8 : (256 : Int) ^ 8 = 18446744073709551616 := p8
  have hw : joinB a b c d e f = be 4 a ++ (be 4 b ++ (be 1 c ++ (be 1 (bit d) ++ if e then be 8 f else []))) := by
    unfold joinB; rw [be1 hc, be1 (bit_in d)]; simp
  unfold pjoin
  rw [if_pos rfl, hw, join_go a b c d _ ha hb hc]
  dsimp only
  rw [if_neg (bit_le d), u32_id ha.1 ha.2, u32_id hb.1 hb.2, u8_id hc.1 hc.2, bit_eq]
  cases e with
  | false => rw [if_pos (by simp)]; rfl
  | true =>
    have l : (be 8 f).length = 8 := be_len 8 f
    have hi : (if (true : Bool) = true then be 8 f else []) = be 8 f := if_pos rfl
    rw [hi, if_neg (by omega), if_pos l, List.take_of_length_le (by omega), num_be 8 f (by omega) (by rw [h8]; exact hf)]; rfl
theorem join_back {k : Int} {b : List Int} (hb : Bytes b) (h : (pjoin k b).1 = true) : ∃ x1 x2 x3 x4 x5 x6, pjoin k b = (true, x1, x2, x3, x4, x5, x6) ∧ U32 x1 ∧ U32 x2 ∧ U8 x3 ∧ U64 x6 ∧ k = 2 ∧ joinB x1 x2 x3 x4 x5 x6 = b := by
  have h8 : (256 : Int) ^ 8 = 18446744073709551616 := p8
  unfold pjoin at h
  split at h
  · rename_i hk
    split at h
    · rename_i x1 x2 x3 x4 r hg
      split at h
      · cases h
      · rename_i h4
        have hg0 := hg
        obtain ⟨_, _, l1, v1, g1⟩ := go_cons hg
        obtain ⟨_, _, l2, v2, g2⟩ := go_cons g1
        obtain ⟨_, _, l3, v3, g3⟩ := go_cons g2
        obtain ⟨_, _, l4, v4, g4⟩ := go_cons g3
        clear hg g1 g2 g3
        simp only [go, Option.some.injEq, Prod.mk.injEq, true_and] at g4
        have t4 : Int.toNat 4 = 4 := rfl
        have t1 : Int.toNat 1 = 1 := rfl
        simp only [t4, t1] at v1 v2 v3 v4 l2 l3 l4 g4
        simp only [List.length_drop] at l2 l3 l4
        have n1 := num_take hb (s := 4) (by omega) (by omega)
        have n2 := num_take (hb.drop 4) (s := 4) (by omega) (by simp; omega)
        have n3 := num_take ((hb.drop 4).drop 4) (s := 1) (by omega) (by simp; omega)
        have n4 := num_take (((hb.drop 4).drop 4).drop 1) (s := 1) (by omega) (by simp; omega)
        rw [p4] at n1 n2; rw [p1] at n3 n4
        have c1 := be_take hb (s := 4) (by omega) (by omega)
        have c2 := be_take (hb.drop 4) (s := 4) (by omega) (by simp; omega)
        have c3 := be_take ((hb.drop 4).drop 4) (s := 1) (by omega) (by simp; omega)
        have c4 := be_take (((hb.drop 4).drop 4).drop 1) (s := 1) (by omega) (by simp; omega)
        rw [← v1] at n1 c1; rw [← v2] at n2 c2; rw [← v3] at n3 c3; rw [← v4] at n4 c4
        have hr : Bytes r := by rw [← g4]; exact ((((hb.drop 4).drop 4).drop 1).drop 1)
        have hbit : [bit (x4 == 1)] = be 1 x4 := by
          have : x4 = 0 ∨ x4 = 1 := by omega
          rcases this with rfl | rfl <;> rfl
        have hbody : be 4 x1 ++ (be 4 x2 ++ (be 1 x3 ++ (be 1 x4 ++ r))) = b := by
          rw [c1, c2, c3, c4, ← g4]; simp only [List.take_append_drop]
        have hj : ∀ e f, (if e then be 8 f else []) = r → joinB x1 x2 x3 (x4 == 1) e f = b := by
          intro e f he
          unfold joinB
          rw [he, hbit, ← be1 n3]
          simp only [List.append_assoc]
          exact hbody
        split at h
        · rename_i hr0
          have hpj : pjoin k b = (true, x1, x2, x3, x4 == 1, false, 0) := by
            unfold pjoin; rw [if_pos hk, hg0]; dsimp only; rw [if_neg h4, if_pos hr0, u32_id n1.1 n1.2, u32_id n2.1 n2.2, u8_id n3.1 n3.2]
          refine ⟨_, _, _, _, _, _, hpj, n1, n2, n3, ⟨Int.le_refl _, by decide⟩, hk, hj _ _ ?_⟩
          exact (List.eq_nil_of_length_eq_zero hr0).symm
        · rename_i hr0
          split at h
          · rename_i hr8
            have hpj : pjoin k b = (true, x1, x2, x3, x4 == 1, true, num (r.take 8)) := by
              unfold pjoin; rw [if_pos hk, hg0]; dsimp only; rw [if_neg h4, if_neg hr0, if_pos hr8, u32_id n1.1 n1.2, u32_id n2.1 n2.2, u8_id n3.1 n3.2]
            have n5 := num_take hr (s := 8) (by omega) (by omega)
            rw [h8] at n5
            refine ⟨_, _, _, _, _, _, hpj, n1, n2, n3, n5, hk, hj _ _ ?_⟩
            rw [if_pos rfl, be_take hr (by omega) (by omega), List.take_of_length_le (by omega)]
          · cases h
    · cases h
  · cases h

theorem dataB_bytes' (a b : Bool) (c d e f : Int) : Bytes (dataB a b c d e f) := by
  unfold dataB
  exact ((((Bytes.cons (dbit_in a b) Bytes.nil).append (be_bytes _ _)).append (be_bytes _ _)).append (be_bytes _ _)).append (be_bytes _ _)
theorem data_back {k : Int} {b : List Int} (hb : Bytes b) (h : (pdata k b).1 = true) : ∃ x1 x2 x3 x4 x5 x6, pdata k b = (true, x1, x2, x3, x4, x5, x6) ∧ U64 x3 ∧ U64 x4 ∧ U32 x5 ∧ U64 x6 ∧ k = 3 ∧ dataB x1 x2 x3 x4 x5 x6 = b := by
  unfold pdata at h
  split at h
  · rename_i hk
    split at h
    · rename_i x1 x2 x3 x4 x5 hg
      split at h
      · cases h
      · rename_i h4
        have hpd : pdata k b = (true, x1 % 2 == 1, decide (x1 > 1), x2, x3, IntKind.wrap .u32 x4, x5) := by
          unfold pdata; rw [if_pos hk, hg]; dsimp only; rw [if_neg h4]
        obtain ⟨_, _, l1, v1, g1⟩ := go_cons hg
        obtain ⟨_, _, l2, v2, g2⟩ := go_cons g1
        obtain ⟨_, _, l3, v3, g3⟩ := go_cons g2
        obtain ⟨_, _, l4, v4, g4⟩ := go_cons g3
        obtain ⟨_, _, l5, v5, g5⟩ := go_cons g4
        clear hg g1 g2 g3 g4
        simp only [go, Option.some.injEq, Prod.mk.injEq, true_and] at g5
        have t4 : Int.toNat 4 = 4 := rfl
        have t1 : Int.toNat 1 = 1 := rfl
        have t8 : Int.toNat 8 = 8 := rfl
        simp only [t1, t4, t8] at v1 v2 v3 v4 v5 g5 l1 l2 l3 l4 l5
        simp only [List.length_drop] at l2 l3 l4 l5
        have n1 := num_take hb (s := 1) (by omega) (by omega)
        have n2 := num_take (hb.drop 1) (s := 8) (by omega) (by simp; omega)
        have n3 := num_take ((hb.drop 1).drop 8) (s := 8) (by omega) (by simp; omega)
        have n4 := num_take (((hb.drop 1).drop 8).drop 8) (s := 4) (by omega) (by simp; omega)
        have n5 := num_take ((((hb.drop 1).drop 8).drop 8).drop 4) (s := 8) (by omega) (by simp; omega)
        rw [p1] at n1; rw [p8] at n2 n3 n5; rw [p4] at n4
        have c1 := be_take hb (s := 1) (by omega) (by omega)
        have c2 := be_take (hb.drop 1) (s := 8) (by omega) (by simp; omega)
        have c3 := be_take ((hb.drop 1).drop 8) (s := 8) (by omega) (by simp; omega)
        have c4 := be_take (((hb.drop 1).drop 8).drop 8) (s := 4) (by omega) (by simp; omega)
        have c5 := be_take ((((hb.drop 1).drop 8).drop 8).drop 4) (s := 8) (by omega) (by simp; omega)
        rw [← v1] at n1 c1; rw [← v2] at n2 c2; rw [← v3] at n3 c3; rw [← v4] at n4 c4; rw [← v5] at n5 c5
        refine ⟨_, _, _, _, _, _, hpd, n2, n3, by rw [u32_id n4.1 n4.2]; exact n4, n5, hk, ?_⟩
        rw [u32_id n4.1 n4.2]
        have hbit : [bit (x1 % 2 == 1) + 2 * bit (decide (x1 > 1))] = be 1 x1 := by
          have : x1 = 0 ∨ x1 = 1 ∨ x1 = 2 ∨ x1 = 3 := by omega
          rcases this with rfl | rfl | rfl | rfl <;> rfl
        unfold dataB
        rw [hbit, c1, c2, c3, c4, c5]
        have e1 : b = b.take 1 ++ ((b.drop 1).take 8 ++ (((b.drop 1).drop 8).take 8 ++ ((((b.drop 1).drop 8).drop 8).take 4 ++ (((((b.drop 1).drop 8).drop 8).drop 4).take 8 ++ (((((b.drop 1).drop 8).drop 8).drop 4).drop 8))))) := by
          simp only [List.take_append_drop]
        rw [g5, List.append_nil] at e1
        simp only [List.append_assoc]
        exact e1.symm
    · cases h
  · cases h
theorem wordB_bytes' (a b c : Int) (d : Bool) (e : Int) (hb : U8 b) (hc : U8 c) : Bytes (wordB a b c d e) := by
  unfold wordB
  exact (((be_bytes _ _).append (Bytes.cons hb (Bytes.cons hc Bytes.nil))).append (Bytes.cons (bit_in d) Bytes.nil)).append (be_bytes _ _)
theorem sameOpt (o : Int) (b : List Int) : f18_broughamref07_SameOption o b o b = some true := by
  unfold f18_broughamref07_SameOption
  rw [if_pos (by simp), str_refl]

set_option maxRecDepth 20000 in
theorem L15 (a b c e_ : Bool) (o0 : Int) (o1 : List Int) (k_0 : Int) (k_1 : Bool) (k_2 : Int) (j_0 j_1 j_2 : Int) (j_3 j_4 : Bool) (j_5 : Int) (d_0 d_1 : Bool) (d_2 d_3 d_4 d_5 : Int) (w__0 w__1 w__2 w__3 : Int) (w__4 : Bool) (w__5 : Int)
    (hk : a = true → Ev (fun n => f21_opt_Key_Option n k_0 k_1 k_2) (fun r => r = (o0, o1)))
    (hj : b = true → Ev (fun n => f23_opt_Join_Option n j_0 j_1 j_2 j_3 j_4 j_5) (fun r => r = (o0, o1)))
    (hd : c = true → Ev (fun n => f26_opt_Data_Option n d_0 d_1 d_2 d_3 d_4 d_5) (fun r => r = (o0, o1)))
    (hw : e_ = true → Ev (fun n => f29_opt_Word_Option n w__0 w__1 w__2 w__3 w__4 w__5) (fun r => r = (o0, o1))) :
    Ev (fun n => f9_broughamlaw08_OptBack_L15 n a b c e_ o0 o1 k_0 k_1 k_2 j_0 j_1 j_2 j_3 j_4 j_5 d_0 d_1 d_2 d_3 d_4 d_5 w__0 w__1 w__2 w__3 w__4 w__5) (fun r => r = true) := by
  apply Ev.succ
  simp only [f9_broughamlaw08_OptBack_L15]
  have fin : Ev (fun n => (f19_broughamlaw08_alive n).bind fun r => some r) (fun r => r = true) := Ev.bind alive_is (fun r hr => Ev.some hr)
  have wordE : ∀ F : Nat → Bool → Option Bool, (e_ = true) → Ev (fun n => F n true) (fun r => r = true) → Ev (fun n => (f29_opt_Word_Option n w__0 w__1 w__2 w__3 w__4 w__5).bind fun r => (f18_broughamref07_SameOption r.1 r.2 o0 o1).bind fun q => F n q) (fun r => r = true) := by
    intro F h hF
    refine Ev.bind (hw h) ?_
    rintro _ rfl
    refine Ev.bind (Ev.of (sameOpt o0 o1) rfl) ?_
    rintro _ rfl
    exact hF
  have dataE : ∀ F : Nat → Bool → Option Bool, (c = true) → Ev (fun n => F n true) (fun r => r = true) → Ev (fun n => (f26_opt_Data_Option n d_0 d_1 d_2 d_3 d_4 d_5).bind fun r => (f18_broughamref07_SameOption r.1 r.2 o0 o1).bind fun q => F n q) (fun r => r = true) := by
    intro F h hF
    refine Ev.bind (hd h) ?_
    rintro _ rfl
    refine Ev.bind (Ev.of (sameOpt o0 o1) rfl) ?_
    rintro _ rfl
    exact hF
  have joinE : ∀ F : Nat → Bool → Option Bool, (b = true) → Ev (fun n => F n true) (fun r => r = true) → Ev (fun n => (f23_opt_Join_Option n j_0 j_1 j_2 j_3 j_4 j_5).bind fun r => (f18_broughamref07_SameOption r.1 r.2 o0 o1).bind fun q => F n q) (fun r => r = true) := by
    intro F h hF
    refine Ev.bind (hj h) ?_
    rintro _ rfl
    refine Ev.bind (Ev.of (sameOpt o0 o1) rfl) ?_
    rintro _ rfl
    exact hF
  have keyE : ∀ F : Nat → Bool → Option Bool, (a = true) → Ev (fun n => F n true) (fun r => r = true) → Ev (fun n => (f21_opt_Key_Option n k_0 k_1 k_2).bind fun r => (f18_broughamref07_SameOption r.1 r.2 o0 o1).bind fun q => F n q) (fun r => r = true) := by
    intro F h hF
    refine Ev.bind (hk h) ?_
    rintro _ rfl
    refine Ev.bind (Ev.of (sameOpt o0 o1) rfl) ?_
    rintro _ rfl
    exact hF
  have nt : ∀ {x : Bool}, ¬ (!x) = true → x = true := by intro x h; cases x <;> simp_all
  have W : Ev (fun n => if (!e_) = true then (f19_broughamlaw08_alive n).bind fun r => some r else (f29_opt_Word_Option n w__0 w__1 w__2 w__3 w__4 w__5).bind fun r => (f18_broughamref07_SameOption r.1 r.2 o0 o1).bind fun q => if q = true then (f19_broughamlaw08_alive n).bind fun r => some r else some false) (fun r => r = true) :=
    Ev.ite (fun _ => fin) (fun h => wordE (fun n q => if q = true then (f19_broughamlaw08_alive n).bind fun r => some r else some false) (nt h) (Ev.pos rfl fin))
  have D : Ev (fun n => if (!c) = true then (if (!e_) = true then (f19_broughamlaw08_alive n).bind fun r => some r else (f29_opt_Word_Option n w__0 w__1 w__2 w__3 w__4 w__5).bind fun r => (f18_broughamref07_SameOption r.1 r.2 o0 o1).bind fun q => if q = true then (f19_broughamlaw08_alive n).bind fun r => some r else some false)
      else (f26_opt_Data_Option n d_0 d_1 d_2 d_3 d_4 d_5).bind fun r => (f18_broughamref07_SameOption r.1 r.2 o0 o1).bind fun q => if q = true then (if (!e_) = true then (f19_broughamlaw08_alive n).bind fun r => some r else (f29_opt_Word_Option n w__0 w__1 w__2 w__3 w__4 w__5).bind fun r => (f18_broughamref07_SameOption r.1 r.2 o0 o1).bind fun q => if q = true then (f19_broughamlaw08_alive n).bind fun r => some r else some false) else some false) (fun r => r = true) :=
    Ev.ite (fun _ => W) (fun h => dataE (fun n q => if q = true then (if (!e_) = true then (f19_broughamlaw08_alive n).bind fun r => some r else (f29_opt_Word_Option n w__0 w__1 w__2 w__3 w__4 w__5).bind fun r => (f18_broughamref07_SameOption r.1 r.2 o0 o1).bind fun q => if q = true then (f19_broughamlaw08_alive n).bind fun r => some r else some false) else some false) (nt h) (Ev.pos rfl W))
  refine Ev.ite (fun _ => Ev.ite (fun _ => D) (fun h => ?_)) (fun h => ?_)
  · exact joinE _ (nt h) (Ev.pos rfl D)
  · exact keyE _ (nt h) (Ev.pos rfl (Ev.ite (fun _ => D) (fun h2 => joinE _ (nt h2) (Ev.pos rfl D))))

theorem L11 (o0 : Int) (o1 : List Int) (hb : Bytes o1) (hl : o1.length ≤ 300) (k_0 : Int) (k_1 : Bool) (k_2 : Int) (j_0 j_1 j_2 : Int) (j_3 j_4 : Bool) (j_5 : Int) (d_0 d_1 : Bool) (d_2 d_3 d_4 d_5 : Int) (w__0 w__1 w__2 w__3 : Int) (w__4 : Bool) (w__5 : Int) :
    Ev (fun n => f9_broughamlaw08_OptBack_L11 n o0 o1 k_0 k_1 k_2 j_0 j_1 j_2 j_3 j_4 j_5 d_0 d_1 d_2 d_3 d_4 d_5 w__0 w__1 w__2 w__3 w__4 w__5) (fun r => r = true) := by
  apply Ev.succ
  simp only [f9_broughamlaw08_OptBack_L11]
  refine Ev.bind (pkey_is o0 o1 hb (by omega)) ?_
  rintro _ rfl
  refine Ev.bind (P := fun r => r = true) ?_ (fun r hr => Ev.some hr)
  apply Ev.succ
  simp only [f9_broughamlaw08_OptBack_L12]
  refine Ev.bind (pjoin_is o0 o1 hb (by omega)) ?_
  rintro _ rfl
  refine Ev.bind (P := fun r => r = true) ?_ (fun r hr => Ev.some hr)
  apply Ev.succ
  simp only [f9_broughamlaw08_OptBack_L13]
  refine Ev.bind (pdata_is o0 o1 hb (by omega)) ?_
  rintro _ rfl
  refine Ev.bind (P := fun r => r = true) ?_ (fun r hr => Ev.some hr)
  apply Ev.succ
  simp only [f9_broughamlaw08_OptBack_L14]
  refine Ev.bind (pword_is o0 o1 hb (by omega)) ?_
  rintro _ rfl
  refine Ev.bind (P := fun r => r = true) ?_ (fun r hr => Ev.some hr)
  refine L15 _ _ _ _ o0 o1 _ _ _ _ _ _ _ _ _ _ _ _ _ _ _ _ _ _ _ _ _ ?_ ?_ ?_ ?_
  · intro h
    obtain ⟨a, an, t, e, h1, h2, h3, h4⟩ := key_back hb h
    rw [e, h3, ← h4]
    exact key_is a an t h1 h2
  · intro h
    obtain ⟨x1, x2, x3, x4, x5, x6, e, h1, h2, h3, h4, h5, h6⟩ := join_back hb h
    rw [e, h5, ← h6]
    exact join_is x1 x2 x3 x4 x5 x6 h1 h2 h3 h4
  · intro h
    obtain ⟨x1, x2, x3, x4, x5, x6, e, h1, h2, h3, h4, h5, h6⟩ := data_back hb h
    rw [e, h5, ← h6]
    exact data_is x1 x2 x3 x4 x5 x6 h1 h2 h3 h4
  · intro h
    obtain ⟨x1, x2, x3, x4, x5, e, h1, h2, h3, h4, h5⟩ := word_back hb h
    rw [e, ← h5]
    exact word_is o0 x1 x2 x3 x4 x5 h1 h2 h3 h4

theorem L9 (e_ : Bool) (x_0 : Int) (x_1 : Bool) (x_2 : Int) (x_3 x_4 x_5 : Int) (x_6 x_7 : Bool) (x_8 : Int) (x_9 x_10 : Bool) (x_11 x_12 x_13 x_14 : Int) (x_15 x_16 x_17 x_18 : Int) (x_19 : Bool) (x_20 : Int) (o0 : Int) (o1 : List Int) (hb : Bytes o1) (hl : o1.length ≤ 300) (k_0 : Int) (k_1 : Bool) (k_2 : Int) (j_0 j_1 j_2 : Int) (j_3 j_4 : Bool) (j_5 : Int) (d_0 d_1 : Bool) (d_2 d_3 d_4 d_5 : Int) (w__0 w__1 w__2 w__3 : Int) (w__4 : Bool) (w__5 : Int)
    (hw : 4 ≤ x_15 ∧ x_15 ≤ 7 → e_ = true ∧ w__0 = x_15 ∧ w__1 = x_16 ∧ w__2 = x_17 ∧ w__3 = x_18 ∧ w__4 = x_19 ∧ w__5 = x_20) :
    Ev (fun n => f9_broughamlaw08_OptBack_L9 n e_ x_0 x_1 x_2 x_3 x_4 x_5 x_6 x_7 x_8 x_9 x_10 x_11 x_12 x_13 x_14 x_15 x_16 x_17 x_18 x_19 x_20 o0 o1 k_0 k_1 k_2 j_0 j_1 j_2 j_3 j_4 j_5 d_0 d_1 d_2 d_3 d_4 d_5 w__0 w__1 w__2 w__3 w__4 w__5) (fun r => r = true) := by
  apply Ev.succ
  simp only [f9_broughamlaw08_OptBack_L9]
  have fin := L11 o0 o1 hb hl k_0 k_1 k_2 j_0 j_1 j_2 j_3 j_4 j_5 d_0 d_1 d_2 d_3 d_4 d_5 w__0 w__1 w__2 w__3 w__4 w__5
  refine Ev.ite (fun h1 => Ev.ite (fun h2 => ?_) (fun _ => Ev.bind fin (fun r hr => Ev.some hr))) (fun _ => Ev.bind fin (fun r hr => Ev.some hr))
  simp only [decide_eq_true_eq] at h1 h2
  obtain ⟨q0, q1, q2, q3, q4, q5, q6⟩ := hw ⟨h1, h2⟩
  refine Ev.neg (by rw [q0]; decide) (Ev.neg ?_ (Ev.bind fin (fun r hr => Ev.some hr)))
  rw [q1, q2, q3, q4, q5, q6]
  simp only [beq_self_eq_true, Bool.and_self]
  decide

theorem L7 (e_ : Bool) (x_0 : Int) (x_1 : Bool) (x_2 : Int) (x_3 x_4 x_5 : Int) (x_6 x_7 : Bool) (x_8 : Int) (x_9 x_10 : Bool) (x_11 x_12 x_13 x_14 : Int) (x_15 x_16 x_17 x_18 : Int) (x_19 : Bool) (x_20 : Int) (o0 : Int) (o1 : List Int) (hb : Bytes o1) (hl : o1.length ≤ 300) (w__0 w__1 w__2 w__3 : Int) (w__4 : Bool) (w__5 : Int)
    (hw : 4 ≤ x_15 ∧ x_15 ≤ 7 → e_ = true ∧ w__0 = x_15 ∧ w__1 = x_16 ∧ w__2 = x_17 ∧ w__3 = x_18 ∧ w__4 = x_19 ∧ w__5 = x_20) :
    Ev (fun n => f9_broughamlaw08_OptBack_L7 n true true true e_ x_0 x_1 x_2 x_3 x_4 x_5 x_6 x_7 x_8 x_9 x_10 x_11 x_12 x_13 x_14 x_15 x_16 x_17 x_18 x_19 x_20 o0 o1 x_0 x_1 (if x_1 then x_2 else 0) x_3 x_4 x_5 x_6 x_7 (if x_7 then x_8 else 0) x_9 x_10 x_11 x_12 x_13 x_14 w__0 w__1 w__2 w__3 w__4 w__5) (fun r => r = true) := by
  apply Ev.succ
  simp only [f9_broughamlaw08_OptBack_L7]
  have nt : ¬ (!true) = true := by decide
  have fin := fun k2 j5 => L9 e_ x_0 x_1 x_2 x_3 x_4 x_5 x_6 x_7 x_8 x_9 x_10 x_11 x_12 x_13 x_14 x_15 x_16 x_17 x_18 x_19 x_20 o0 o1 hb hl x_0 x_1 k2 x_3 x_4 x_5 x_6 x_7 j5 x_9 x_10 x_11 x_12 x_13 x_14 w__0 w__1 w__2 w__3 w__4 w__5 hw
  refine Ev.neg nt (Ev.neg nt (Ev.neg nt (Ev.neg (by simp only [beq_self_eq_true, Bool.and_self]; decide) ?_)))
  cases x_1 <;> cases x_7
  · exact Ev.neg (by decide) (Ev.neg (by decide) (Ev.neg (by simp) (Ev.neg (by simp) (Ev.bind (fin _ _) (fun r hr => Ev.some hr)))))
  · exact Ev.neg (by decide) (Ev.pos rfl (Ev.neg (by simp) (Ev.neg (by simp) (Ev.neg (by simp) (Ev.bind (fin _ _) (fun r hr => Ev.some hr))))))
  · exact Ev.pos rfl (Ev.neg (by simp) (Ev.neg (by decide) (Ev.neg (by simp) (Ev.neg (by simp) (Ev.bind (fin _ _) (fun r hr => Ev.some hr))))))
  · exact Ev.pos rfl (Ev.neg (by simp) (Ev.pos rfl (Ev.neg (by simp) (Ev.neg (by simp) (Ev.neg (by simp) (Ev.bind (fin _ _) (fun r hr => Ev.some hr)))))))

theorem OptBack (x : (Int × Bool × Int) × (Int × Int × Int × Bool × Bool × Int) × (Bool × Bool × Int × Int × Int × Int) × (Int × Int × Int × Int × Bool × Int)) (h0 : K.ok (.pair (.pair (.int .u64) (.pair .bool (.int .u64))) (.pair (.pair (.int .u32) (.pair (.int .u32) (.pair (.int .u8) (.pair .bool (.pair .bool (.int .u64)))))) (.pair (.pair .bool (.pair .bool (.pair (.int .u64) (.pair (.int .u64) (.pair (.int .u32) (.int .u64)))))) (.pair (.int .u8) (.pair (.int .u32) (.pair (.int .u8) (.pair (.int .u8) (.pair .bool (.int .u64))))))))) x)
    (o : Int × List Int) (h1 : K.ok (.pair (.int .u8) (.slice (.int .u8))) o) : ∃ n, f9_broughamlaw08_OptBack n x.1.1 x.1.2.1 x.1.2.2 x.2.1.1 x.2.1.2.1 x.2.1.2.2.1 x.2.1.2.2.2.1 x.2.1.2.2.2.2.1 x.2.1.2.2.2.2.2 x.2.2.1.1 x.2.2.1.2.1 x.2.2.1.2.2.1 x.2.2.1.2.2.2.1 x.2.2.1.2.2.2.2.1 x.2.2.1.2.2.2.2.2 x.2.2.2.1 x.2.2.2.2.1 x.2.2.2.2.2.1 x.2.2.2.2.2.2.1 x.2.2.2.2.2.2.2.1 x.2.2.2.2.2.2.2.2 o.1 o.2 = some true := by
  obtain ⟨⟨x0, x1, x2⟩, ⟨x3, x4, x5, x6, x7, x8⟩, ⟨x9, x10, x11, x12, x13, x14⟩, x15, x16, x17, x18, x19, x20⟩ := x
  obtain ⟨o0, o1⟩ := o
  obtain ⟨⟨a0, a1, a2⟩, ⟨a3, a4, a5, a6, a7, a8⟩, ⟨a9, a10, a11, a12, a13, a14⟩, a15, a16, a17, a18, a19, a20⟩ := h0
  have a0 := ok_u64 a0; have a2 := ok_u64 a2; have a3 := ok_u32 a3; have a4 := ok_u32 a4; have a5 := ok_u8 a5; have a8 := ok_u64 a8
  have a11 := ok_u64 a11; have a12 := ok_u64 a12; have a13 := ok_u32 a13; have a14 := ok_u64 a14; have a15 := ok_u8 a15; have a16 := ok_u32 a16; have a17 := ok_u8 a17; have a18 := ok_u8 a18; have a20 := ok_u64 a20
  have hb := ok_bytes h1.2
  apply Ev.true
  unfold f9_broughamlaw08_OptBack
  dsimp only
  refine Ev.bind (P := fun r => r = true) ?_ (fun r hr => Ev.some hr)
  apply Ev.succ
  simp only [f9_broughamlaw08_OptBack_L1]
  refine Ev.ite (fun _ => Ev.bind (P := fun r => r = true) (Ev.succ (Ev.some rfl)) (fun r hr => Ev.some hr)) (fun hl => ?_)
  simp only [decide_eq_true_eq] at hl
  refine Ev.bind (P := fun r => r = true) ?_ (fun r hr => Ev.some hr)
  apply Ev.succ
  simp only [f9_broughamlaw08_OptBack_L3]
  refine Ev.bind (key_is x0 x1 x2 a0 a2) ?_
  rintro _ rfl
  refine Ev.bind (pkey_is 1 (keyB x0 x1 x2) (keyB_bytes _ _ _) (by rw [keyB_len]; split <;> omega)) ?_
  rw [pkey_back x0 x1 x2 a0 a2]
  rintro _ rfl
  refine Ev.bind (P := fun r => r = true) ?_ (fun r hr => Ev.some hr)
  apply Ev.succ
  simp only [f9_broughamlaw08_OptBack_L4]
  refine Ev.bind (join_is x3 x4 x5 x6 x7 x8 a3 a4 a5 a8) ?_
  rintro _ rfl
  refine Ev.bind (pjoin_is 2 (joinB x3 x4 x5 x6 x7 x8) (joinB_bytes _ _ _ _ _ _ a5) (by have := joinB_len x3 x4 x5 x6 x7 x8; omega)) ?_
  rw [pjoin_back x3 x4 x5 x6 x7 x8 a3 a4 a5 a8]
  rintro _ rfl
  refine Ev.bind (P := fun r => r = true) ?_ (fun r hr => Ev.some hr)
  apply Ev.succ
  simp only [f9_broughamlaw08_OptBack_L5]
  refine Ev.bind (data_is x9 x10 x11 x12 x13 x14 a11 a12 a13 a14) ?_
  rintro _ rfl
  refine Ev.bind (pdata_is 3 (dataB x9 x10 x11 x12 x13 x14) (dataB_bytes' _ _ _ _ _ _) (by simp [dataB, be_len])) ?_
  rw [pdata_back x9 x10 x11 x12 x13 x14 a11 a12 a13 a14]
  rintro _ rfl
  refine Ev.bind (P := fun r => r = true) ?_ (fun r hr => Ev.some hr)
  apply Ev.succ
  simp only [f9_broughamlaw08_OptBack_L6]
  refine Ev.bind (word_is x15 x16 x17 x18 x19 x20 a16 a17 a18 a20) ?_
  rintro _ rfl
  refine Ev.bind (pword_is x15 (wordB x16 x17 x18 x19 x20) (wordB_bytes' _ _ _ _ _ a17 a18) (by simp [wordB, be_len])) ?_
  rintro _ rfl
  refine Ev.bind (P := fun r => r = true) ?_ (fun r hr => Ev.some hr)
  refine L7 _ x0 x1 x2 x3 x4 x5 x6 x7 x8 x9 x10 x11 x12 x13 x14 x15 x16 x17 x18 x19 x20 o0 o1 hb (by omega) _ _ _ _ _ _ ?_
  intro hk
  rw [pword_back x15 x16 x17 x18 x19 x20 hk a16 a17 a18 a20]
  exact ⟨rfl, rfl, rfl, rfl, rfl, rfl, rfl⟩
end Go.Proofs.YtddglebabaaghaaF08b
