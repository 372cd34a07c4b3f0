/- VarintBack: what is written is read as it was, what is read is written as it was; signs and differences likewise: of the functions that text F43 prints. Conditions: none. -/
import Derived.Test.YtjimlfjhhmdcdaaPureVarintReads
namespace Go.Proofs.YtjimlfjhhmdcdaaF43
open Go Zed
set_option linter.unusedVariables false
set_option linter.unusedSimpArgs false

theorem nomatch_nil {p : Int → Prop} : ∀ x ∈ ([] : List Int), p x := fun x hx => by cases hx
def I64 (x : Int) : Prop := -9223372036854775808 ≤ x ∧ x < 9223372036854775808
def fold (x : Int) : Int := if 0 ≤ x then 2 * x else -2 * x - 1
def unfold_ (u : Int) : Int := if u % 2 = 0 then u / 2 else -1 - u / 2

theorem fold_is (x : Int) (h : I64 x) : f62_varint_Fold x = some (fold x) := by
  obtain ⟨h1, h2⟩ := h
  unfold f62_varint_Fold fold
  have e1 : (2 : Int) ^ 1 = 2 := by decide
  have e63 : (2 : Int) ^ 63 = 9223372036854775808 := by decide
  rw [e1, e63, fdiv_e (by decide)]
  have ew : IntKind.wrap .u64 (IntKind.wrap .i64 (x * 2)) = (x * 2) % 18446744073709551616 := by rw [w_u64, w_i64]; omega
  rw [ew]
  by_cases hx : 0 ≤ x
  · rw [if_pos hx]
    have : IntKind.wrap .u64 (x / 9223372036854775808) = 0 := by rw [w_u64]; omega
    rw [this, xor_u64_zero (by omega)]
    congr 1; omega
  · rw [if_neg hx]
    have : IntKind.wrap .u64 (x / 9223372036854775808) = 18446744073709551615 := by rw [w_u64]; omega
    rw [this, xor_u64_ones (by omega)]
    congr 1; omega
theorem refFold_is (x : Int) (h : I64 x) : f63_broughamref43_Fold x = some (fold x) := by
  obtain ⟨h1, h2⟩ := h
  unfold f63_broughamref43_Fold fold
  simp only [w_u64, w_i64]
  by_cases hx : 0 ≤ x
  · rw [if_pos (by simpa using hx), if_pos hx]; congr 1; omega
  · rw [if_neg (by simpa using hx), if_neg hx]; congr 1; omega
theorem unfold_is (u : Int) (h : 0 ≤ u ∧ u < 18446744073709551616) : f61_varint_Unfold u = some (unfold_ u) := by
  unfold f61_varint_Unfold unfold_
  have ea : bits .and .u64 u 1 = u % 2 := by
    have := and_u64 h 1 (by decide)
    rwa [show (2 : Int) ^ 1 - 1 = 1 by decide, show (2 : Int) ^ 1 = 2 by decide] at this
  have e1 : (2 : Int) ^ 1 = 2 := by decide
  rw [ea, e1, fdiv_e (by decide), i64_id (show -9223372036854775808 ≤ u / 2 by omega) (by omega), i64_id (show -9223372036854775808 ≤ u % 2 by omega) (by omega), i64_id (show -9223372036854775808 ≤ 0 - u % 2 by omega) (by omega)]
  by_cases hu : u % 2 = 0
  · rw [if_pos hu, hu]
    rw [show (0 : Int) - 0 = 0 by decide, xor_i64_zero (by omega)]
  · rw [if_neg hu, show (0 : Int) - u % 2 = -1 by omega, xor_i64_ones (by omega)]
theorem fold_in {x : Int} (h : I64 x) : 0 ≤ fold x ∧ fold x < 18446744073709551616 := by
  obtain ⟨h1, h2⟩ := h; unfold fold; split <;> omega
theorem unfold_in {u : Int} (h : 0 ≤ u ∧ u < 18446744073709551616) : I64 (unfold_ u) := by
  unfold unfold_ I64; split <;> omega
theorem unfold_fold {x : Int} (h : I64 x) : unfold_ (fold x) = x := by
  unfold unfold_ fold; split <;> split <;> omega
theorem fold_unfold {u : Int} (h : 0 ≤ u ∧ u < 18446744073709551616) : fold (unfold_ u) = u := by
  unfold unfold_ fold; split <;> split <;> omega

def u64s (l : List Int) : List Int := l.map fun x => x % 18446744073709551616
theorem u64s_in (l : List Int) : U64 (u64s l) := fun x hx => by
  obtain ⟨y, _, rfl⟩ := List.mem_map.1 hx
  omega

theorem signs (l b : List Int) (hl : l.length ≤ 200) (hv : ∀ x ∈ l, I64 x) : ∀ (k i : Nat) (u : List Int), i + k = l.length → u.length ≤ i →
    Ev (fun n => f12_broughamlaw43_VarintBack_L5 n l b u i) (fun r => r = .inr (l, b, u ++ u64s (l.drop i)))
  | 0, i, u, h, hu => by
    apply Ev.succ
    simp only [f12_broughamlaw43_VarintBack_L5]
    exact Ev.neg (by simp; omega) (Ev.some (by rw [List.drop_eq_nil_of_le (by omega)]; simp [u64s]))
  | k + 1, i, u, h, hu => by
    apply Ev.succ
    simp only [f12_broughamlaw43_VarintBack_L5]
    have hi : i < l.length := by omega
    have hx := hv _ (getD_mem hi 0)
    rw [drop_cons hi 0, Int.toNat_natCast]
    generalize l.getD i 0 = x at *
    have hw : 0 ≤ IntKind.wrap .u64 x ∧ IntKind.wrap .u64 x < 18446744073709551616 := by rw [w_u64]; omega
    simp only [fold_is x hx, refFold_is x hx, unfold_is _ (fold_in hx), unfold_fold hx, unfold_is _ hw, fold_is _ (unfold_in hw), fold_unfold hw, Option.bind_some]
    have g : 0 ≤ (i : Int) ∧ (i : Int) < (((l).length : Nat) : Int) := by omega
    simp only [if_pos g]
    refine Ev.pos (by simp; omega) (Ev.neg (by simp) (Ev.neg (by simp) (Ev.neg (by simp) (Ev.guard (by simp [maxLen]; omega) ?_))))
    rw [i64_id (show -9223372036854775808 ≤ (i : Int) + 1 by omega) (by omega), show (i : Int) + 1 = ((i + 1 : Nat) : Int) by omega]
    refine (signs l b hl hv k (i + 1) _ (by omega) (by simp; omega)).mono ?_
    rintro _ rfl
    rw [w_u64]
    simp [u64s]

theorem encs_cons (x : Int) (l : List Int) : encs (x :: l) = enc x.toNat ++ encs l := by simp [encs]
theorem encs_len (l : List Int) (hv : U64 l) : (encs l).length ≤ 10 * l.length ∧ l.length ≤ (encs l).length := by
  induction l with
  | nil => simp [encs]
  | cons x l ih =>
    have := ih (fun y hy => hv y (List.mem_cons_of_mem _ hy))
    have hx := hv x List.mem_cons_self
    have := enc_len10 (x := x.toNat) (by omega)
    rw [encs_cons, List.length_append, List.length_cons]; omega
theorem encs_bytes (l : List Int) (hv : U64 l) : Bytes (encs l) := by
  induction l with
  | nil => exact Bytes.nil
  | cons x l ih =>
    have hx := hv x List.mem_cons_self
    rw [encs_cons]
    exact (enc_bytes (by omega)).append (ih (fun y hy => hv y (List.mem_cons_of_mem _ hy)))
theorem dec_enc (x : Nat) (hx : x < 18446744073709551616) (r : List Int) : dec (enc x ++ r) = ((x : Int), ((enc x).length : Int)) := by
  obtain ⟨l, c, h1, h2, h3, h4, h5⟩ := enc_shape 9 x (lt10 hx)
  have hg : grp (enc x ++ r) = some (enc x) := by
    rw [h1, List.append_assoc, List.singleton_append]; exact grp_at l c r h2 h4
  unfold dec
  rw [hg]
  dsimp only
  rw [val_enc 9 x (lt10 hx), Nat.mod_eq_of_lt hx, if_pos ⟨(enc_len10 hx).2, rfl⟩]
theorem all_encs : ∀ (k : Nat) (l : List Int), U64 l → l.length ≤ k → all k (encs l) = some l
  | 0, l, hv, hk => by
    obtain rfl : l = [] := List.eq_nil_of_length_eq_zero (by omega)
    rfl
  | k + 1, [], hv, hk => by simp [all, encs]
  | k + 1, x :: l, hv, hk => by
    have hx := hv x List.mem_cons_self
    have hx' : x.toNat < 18446744073709551616 := by omega
    have hl := enc_len10 hx'
    have ih := all_encs k l (fun y hy => hv y (List.mem_cons_of_mem _ hy)) (by simp at hk; omega)
    rw [encs_cons, all, dec_enc _ hx', if_neg (by intro h; have := congrArg List.length h; rw [List.length_append, List.length_nil] at this; omega), if_neg (show ¬ ((enc x.toNat).length : Int) = 0 by omega)]
    simp only [Int.toNat_natCast, List.drop_left, ih, Option.map_some]
    congr 2; omega
theorem all_more : ∀ (k : Nat) (b : List Int), Bytes b → b.length ≤ k → ∀ j, k ≤ j → all j b = all k b
  | 0, b, hB, hk, j, hj => by
    obtain rfl : b = [] := List.eq_nil_of_length_eq_zero (by omega)
    cases j <;> simp [all]
  | k + 1, b, hB, hk, 0, hj => by omega
  | k + 1, b, hB, hk, j + 1, hj => by
    rw [all, all]
    split
    · rfl
    · split
      · rfl
      · rename_i hne h0
        rcases dec_cases b hB with hd | ⟨x, hx, hd, hbx⟩
        · rw [hd] at h0; exact absurd rfl h0
        · have hl := enc_len10 hx
          have hle : (enc x).length ≤ b.length := by rw [hbx]; simp
          rw [all_more k _ (hB.drop _) (by rw [hd]; simp; omega) j (by omega)]
theorem all_encs' (l : List Int) (hv : U64 l) : all (encs l).length (encs l) = some l :=
  (all_more _ _ (encs_bytes l hv) (Nat.le_refl _) _ (Nat.le_refl _)).symm.trans (all_encs _ l hv (encs_len l hv).2)
/-- What is read was written so. -/
theorem encs_all : ∀ (k : Nat) (b l : List Int), Bytes b → b.length ≤ k → all k b = some l → encs l = b ∧ U64 l
  | 0, b, l, hB, hk, h => by
    obtain rfl : b = [] := List.eq_nil_of_length_eq_zero (by omega)
    cases h; exact ⟨rfl, nomatch_nil⟩
  | k + 1, b, l, hB, hk, h => by
    rw [all] at h
    split at h
    · rename_i hb; cases h; exact ⟨by rw [hb]; rfl, nomatch_nil⟩
    · split at h
      · cases h
      · rename_i hne h0
        obtain ⟨q, h1, rfl⟩ := Option.map_eq_some_iff.1 h
        rcases dec_cases b hB with hd | ⟨x, hx, hd, hbx⟩
        · rw [hd] at h0; exact absurd rfl h0
        · rw [hd] at h1 ⊢
          have hl := enc_len10 hx
          have hle : (enc x).length ≤ b.length := by rw [hbx]; simp
          obtain ⟨h2, h3⟩ := encs_all k _ q (hB.drop _) (by simp; omega) h1
          simp only [Int.toNat_natCast] at h2
          refine ⟨by rw [encs_cons, h2, Int.toNat_natCast]; exact hbx.symm, fun y hy => ?_⟩
          rcases List.mem_cons.1 hy with rfl | hy
          · simp only; omega
          · exact h3 y hy

/-- Differences. -/
def diffs : Int → List Int → List Int
  | _, [] => []
  | last, x :: l => fold (IntKind.wrap .i64 (x - last)) :: diffs x l
def sums : Int → List Int → List Int
  | _, [] => []
  | last, u :: l => IntKind.wrap .i64 (last + unfold_ u) :: sums (IntKind.wrap .i64 (last + unfold_ u)) l
theorem wrap_in (x : Int) : I64 (IntKind.wrap .i64 x) := by rw [w_i64]; unfold I64; omega
theorem diffs_in : ∀ (l : List Int) (last : Int), U64 (diffs last l) ∧ (diffs last l).length = l.length
  | [], last => ⟨nomatch_nil, rfl⟩
  | x :: l, last => by
    obtain ⟨h1, h2⟩ := diffs_in l x
    refine ⟨fun y hy => ?_, by simp [diffs, h2]⟩
    rcases List.mem_cons.1 hy with rfl | hy
    · exact fold_in (wrap_in _)
    · exact h1 y hy
theorem sums_diffs : ∀ (l : List Int) (last : Int), (∀ x ∈ l, I64 x) → I64 last → sums last (diffs last l) = l
  | [], last, _, _ => rfl
  | x :: l, last, h, hl => by
    have hx := h x List.mem_cons_self
    have e : IntKind.wrap .i64 (last + unfold_ (fold (IntKind.wrap .i64 (x - last)))) = x := by
      rw [unfold_fold (wrap_in _)]
      obtain ⟨a1, a2⟩ := hx; obtain ⟨b1, b2⟩ := hl
      rw [w_i64, w_i64]; omega
    rw [diffs, sums, e, sums_diffs l x (fun y hy => h y (List.mem_cons_of_mem _ hy)) hx]
theorem diffs_sums : ∀ (l : List Int) (last : Int), U64 l → I64 last → diffs last (sums last l) = l
  | [], last, _, _ => rfl
  | u :: l, last, h, hl => by
    have hu := h u List.mem_cons_self
    have e : fold (IntKind.wrap .i64 (IntKind.wrap .i64 (last + unfold_ u) - last)) = u := by
      have : IntKind.wrap .i64 (IntKind.wrap .i64 (last + unfold_ u) - last) = unfold_ u := by
        obtain ⟨a1, a2⟩ := unfold_in hu; obtain ⟨b1, b2⟩ := hl
        rw [w_i64, w_i64]; omega
      rw [this, fold_unfold hu]
    rw [sums, diffs, e, diffs_sums l _ (fun y hy => h y (List.mem_cons_of_mem _ hy)) (wrap_in _)]
theorem sums_in : ∀ (l : List Int) (last : Int), (∀ x ∈ sums last l, I64 x) ∧ (sums last l).length = l.length
  | [], last => ⟨nomatch_nil, rfl⟩
  | u :: l, last => by
    obtain ⟨h1, h2⟩ := sums_in l (IntKind.wrap .i64 (last + unfold_ u))
    refine ⟨fun y hy => ?_, by simp [sums, h2]⟩
    rcases List.mem_cons.1 hy with rfl | hy
    · exact wrap_in _
    · exact h1 y hy

theorem deltasLoop (l : List Int) (hl : l.length ≤ 2000) (hv : ∀ x ∈ l, I64 x) : ∀ (k i : Nat) (b : List Int) (last : Int), i + k = l.length → b.length ≤ 10 * i →
    Ev (fun n => f65_varint_Deltas_L4 n b last l ((l.length : Nat) : Int) i) (fun r => r = b ++ encs (diffs last (l.drop i)))
  | 0, i, b, last, h, hb => by
    apply Ev.succ
    simp only [f65_varint_Deltas_L4]
    exact Ev.neg (by simp; omega) (Ev.some (by rw [List.drop_eq_nil_of_le (by omega)]; simp [diffs, encs]))
  | k + 1, i, b, last, h, hb => by
    apply Ev.succ
    simp only [f65_varint_Deltas_L4]
    have hi : i < l.length := by omega
    rw [drop_cons hi 0, Int.toNat_natCast]
    generalize l.getD i 0 = x
    have hf := fold_in (wrap_in (x - last))
    have h1 : U64 [fold (IntKind.wrap .i64 (x - last))] := fun y hy => by simp at hy; subst hy; exact hf
    simp only [fold_is _ (wrap_in _), Option.bind_some]
    refine Ev.pos (by simp; omega) (Ev.guard (by omega) (Ev.bind (put_isB b _ (by omega) (by simp) h1) ?_))
    rintro _ rfl
    have := encs_len _ h1
    simp at this
    rw [i64_id (show -9223372036854775808 ≤ (i : Int) + 1 by omega) (by omega), show (i : Int) + 1 = ((i + 1 : Nat) : Int) by omega]
    refine (deltasLoop l hl hv k (i + 1) _ x (by omega) (by simp; omega)).mono ?_
    rintro _ rfl
    rw [diffs, encs_cons, List.append_assoc, encs_cons]
    simp [encs]
theorem deltas_is (l : List Int) (hl : l.length ≤ 2000) (hv : ∀ x ∈ l, I64 x) : Ev (fun n => f65_varint_Deltas n l) (fun r => r = encs (diffs 0 l)) := by
  simp only [f65_varint_Deltas]
  refine Ev.bind (deltasLoop l hl hv l.length 0 [] 0 (by omega) (by simp)) ?_
  rintro _ rfl
  exact Ev.some (by simp)

theorem undeltasLoop (l : List Int) (hl : l.length ≤ 2000) (hv : U64 l) : ∀ (k i : Nat) (o : List Int) (last : Int), i + k = l.length → o.length ≤ i →
    Ev (fun n => f64_varint_Undeltas_L7 n o last l ((l.length : Nat) : Int) i) (fun r => r = o ++ sums last (l.drop i))
  | 0, i, o, last, h, hb => by
    apply Ev.succ
    simp only [f64_varint_Undeltas_L7]
    exact Ev.neg (by simp; omega) (Ev.some (by rw [List.drop_eq_nil_of_le (by omega)]; simp [sums]))
  | k + 1, i, o, last, h, hb => by
    apply Ev.succ
    simp only [f64_varint_Undeltas_L7]
    have hi : i < l.length := by omega
    have hx := hv _ (getD_mem hi 0)
    rw [drop_cons hi 0, Int.toNat_natCast]
    generalize l.getD i 0 = x at *
    simp only [unfold_is x hx, Option.bind_some]
    rw [i64_id (show -9223372036854775808 ≤ (i : Int) + 1 by omega) (by omega), show (i : Int) + 1 = ((i + 1 : Nat) : Int) by omega]
    refine Ev.pos (by simp; omega) (Ev.guard (by omega) (Ev.guard (by simp [maxLen]; omega) ((undeltasLoop l hl hv k (i + 1) _ _ (by omega) (by simp; omega)).mono ?_)))
    rintro _ rfl
    simp [sums]
def unans : Option (List Int) → List Int × Bool
  | none => ([], false)
  | some l => (sums 0 l, true)
theorem undeltas_is (b : List Int) (hb : Bytes b) (hbl : b.length ≤ 2000) : Ev (fun n => f64_varint_Undeltas n b) (fun r => r = unans (all b.length b)) := by
  simp only [f64_varint_Undeltas]
  refine Ev.bind (all_is b hb (by omega)) ?_
  rintro _ rfl
  cases h : all b.length b with
  | none => exact Ev.pos rfl (Ev.some rfl)
  | some l =>
    have h1 := encs_all _ b l hb (Nat.le_refl _) h
    have h2 := all_len _ _ _ h
    refine Ev.neg (by simp [ans]) (Ev.bind (undeltasLoop l (by omega) h1.2 l.length 0 [] 0 (by omega) (by simp)) ?_)
    rintro _ rfl
    exact Ev.some rfl

theorem lastLoop (l b : List Int) (hl : l.length ≤ 200) : ∀ (k i : Nat), i + k = l.length → Ev (fun n => f12_broughamlaw43_VarintBack_L15 n l b l i) (fun r => r = .inr b)
  | 0, i, h => by
    apply Ev.succ
    simp only [f12_broughamlaw43_VarintBack_L15]
    exact Ev.neg (by simp; omega) (Ev.some rfl)
  | k + 1, i, h => by
    apply Ev.succ
    simp only [f12_broughamlaw43_VarintBack_L15]
    refine Ev.pos (by simp; omega) (Ev.guard (by omega) (Ev.guard (by omega) (Ev.neg (by simp) ?_)))
    rw [i64_id (show -9223372036854775808 ≤ (i : Int) + 1 by omega) (by omega), show (i : Int) + 1 = ((i + 1 : Nat) : Int) by omega]
    exact lastLoop l b hl k (i + 1) (by omega)

theorem VarintBack (l : List Int) (h0 : K.ok (.slice (.int .i64)) l) (b : List Int) (h1 : K.ok (.slice (.int .u8)) b) : ∃ n, f12_broughamlaw43_VarintBack n l b = some true := by
  have hb := ok_bytes h1
  have hv : ∀ x ∈ l, I64 x := fun x hx => ok_i64 (h0.2 x hx)
  apply Ev.true
  simp only [f12_broughamlaw43_VarintBack]
  refine Ev.ite (fun _ => Ev.some rfl) fun a1 => Ev.ite (fun _ => Ev.some rfl) fun a2 => ?_
  simp only [decide_eq_true_eq] at a1 a2
  refine Ev.bind (signs l b (by omega) hv l.length 0 [] (by omega) (by simp)) ?_
  rintro _ rfl
  dsimp only
  rw [List.drop_zero, List.nil_append]
  have hu := u64s_in l
  have hul : (u64s l).length = l.length := by simp [u64s]
  have hel := encs_len _ hu
  obtain ⟨hd1, hd2⟩ := diffs_in l 0
  have hdl := encs_len _ hd1
  refine Ev.bind (put_is [] _ (by simp) (by omega) hu) ?_
  rintro _ rfl
  rw [List.nil_append]
  refine Ev.bind (all_is _ (encs_bytes _ hu) (by omega)) ?_
  rintro _ rfl
  rw [all_encs' _ hu]
  refine Ev.bind (deltas_is l (by omega) hv) ?_
  rintro _ rfl
  refine Ev.bind (undeltas_is _ (encs_bytes _ hd1) (by omega)) ?_
  rintro _ rfl
  rw [all_encs' _ hd1]
  simp only [unans, ans, sums_diffs l 0 hv ⟨by decide, by decide⟩]
  refine Ev.neg (by simp) (Ev.bind (row_is _ (by omega)) ?_)
  rintro _ rfl
  refine Ev.neg (by simp) (Ev.neg (by simp) (Ev.neg (by simp) (Ev.bind (lastLoop l b (by omega) l.length 0 (by omega)) ?_)))
  rintro _ rfl
  dsimp only
  refine Ev.bind (undeltas_is b hb (by omega)) ?_
  rintro _ rfl
  refine Ev.bind (all_is b hb (by omega)) ?_
  rintro _ rfl
  cases h : all b.length b with
  | none => exact Ev.pos (by simp [unans, ans]) (Ev.pos (by simp [unans]) (Ev.bind alive_is (fun r hr => Ev.some hr)))
  | some w =>
    obtain ⟨h2, h3⟩ := encs_all _ b w hb (Nat.le_refl _) h
    have h4 := all_len _ _ _ h
    obtain ⟨h5, h6⟩ := sums_in w 0
    refine Ev.pos (by simp [unans, ans]) (Ev.neg (by simp [unans]) (Ev.bind (deltas_is (sums 0 w) (by omega) h5) ?_))
    rintro _ rfl
    rw [diffs_sums w 0 h3 ⟨by decide, by decide⟩, h2]
    refine Ev.pos (by simp) (Ev.bind (put_isB [] w (by simp) (by omega) h3) ?_)
    rintro _ rfl
    rw [List.nil_append, h2]
    exact Ev.pos (by simp) (Ev.bind alive_is (fun r hr => Ev.some hr))
end Go.Proofs.YtjimlfjhhmdcdaaF43
