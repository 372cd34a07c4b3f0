/- What an option says: of the functions that text F26 prints. Conditions: none. -/
import Derived.Test.YtjoibacjpapncaaPureTrace
namespace Go.Proofs.YtjoibacjpapncaaF26
open Go Zed Go.Proofs.YtjoibacjpapncaaLeaf
set_option linter.unusedVariables false
set_option linter.unusedSimpArgs false

theorem num_u64 (l : List Int) : U64 (num l) := by
  have gen : ∀ (l : List Int) (x : Int), U64 x → U64 (l.foldl st x) := by
    intro l
    induction l with
    | nil => intro x h; exact h
    | cons c l ih =>
      intro x h
      refine ih _ ?_
      unfold st
      constructor
      · exact Int.emod_nonneg _ (by decide)
      · exact Int.emod_lt_of_pos _ (by decide)
  exact gen l 0 ⟨by decide, by decide⟩
theorem go_u64 : ∀ (l b : List Int) (p : List Int × List Int), go b l = some p → ∀ v ∈ p.1, U64 v
  | [], b, p, h, v, hv => by cases h; cases hv
  | s :: l, b, p, h, v, hv => by
    simp only [go] at h
    split at h
    · obtain ⟨q, h1, rfl⟩ := Option.map_eq_some_iff.1 h
      rcases List.mem_cons.1 hv with rfl | hv
      · exact num_u64 _
      · exact go_u64 l _ q h1 v hv
    · cases h
theorem pkey_in (k : Int) (b : List Int) : U64 (pkey k b).2.1 ∧ U64 (pkey k b).2.2.2 ∧ ((pkey k b).1 = true → k = 1) := by
  unfold pkey
  have z : U64 0 := ⟨by decide, by decide⟩
  split
  · rename_i h
    split
    · exact ⟨num_u64 _, z, fun _ => h⟩
    · split
      · exact ⟨num_u64 _, num_u64 _, fun _ => h⟩
      · exact ⟨z, z, fun _ => h⟩
  · exact ⟨z, z, fun q => by cases q⟩
theorem w32 (x : Int) : 0 ≤ IntKind.wrap .u32 x ∧ IntKind.wrap .u32 x < 4294967296 := by
  rw [w_u32]; exact ⟨Int.emod_nonneg _ (by decide), Int.emod_lt_of_pos _ (by decide)⟩
theorem w8 (x : Int) : 0 ≤ IntKind.wrap .u8 x ∧ IntKind.wrap .u8 x < 256 := by
  rw [w_u8]; exact ⟨Int.emod_nonneg _ (by decide), Int.emod_lt_of_pos _ (by decide)⟩
theorem pjoin_in (k : Int) (b : List Int) : U32 (pjoin k b).2.1 ∧ U32 (pjoin k b).2.2.1 ∧ U8 (pjoin k b).2.2.2.1 ∧ U64 (pjoin k b).2.2.2.2.2.2 ∧ ((pjoin k b).1 = true → k = 2) := by
  have z : U64 0 := ⟨by decide, by decide⟩
  have z3 : U32 0 := ⟨by decide, by decide⟩
  have z8 : U8 0 := ⟨by decide, by decide⟩
  unfold pjoin
  split
  · rename_i h
    split
    · split
      · exact ⟨z3, z3, z8, z, fun q => by cases q⟩
      · split
        · exact ⟨w32 _, w32 _, w8 _, z, fun _ => h⟩
        · split
          · exact ⟨w32 _, w32 _, w8 _, num_u64 _, fun _ => h⟩
          · exact ⟨z3, z3, z8, z, fun q => by cases q⟩
    · exact ⟨z3, z3, z8, z, fun q => by cases q⟩
  · exact ⟨z3, z3, z8, z, fun q => by cases q⟩
theorem pdata_in (k : Int) (b : List Int) : U64 (pdata k b).2.2.2.1 ∧ U64 (pdata k b).2.2.2.2.1 ∧ U32 (pdata k b).2.2.2.2.2.1 ∧ U64 (pdata k b).2.2.2.2.2.2 ∧ ((pdata k b).1 = true → k = 3) := by
  have z : U64 0 := ⟨by decide, by decide⟩
  have z3 : U32 0 := ⟨by decide, by decide⟩
  unfold pdata
  split
  · rename_i h
    split
    · rename_i x1 x2 x3 x4 x5 hg
      have hu := go_u64 _ _ _ hg
      split
      · exact ⟨z, z, z3, z, fun q => by cases q⟩
      · exact ⟨hu x2 (by simp), hu x3 (by simp), w32 _, hu x5 (by simp), fun _ => h⟩
    · exact ⟨z, z, z3, z, fun q => by cases q⟩
  · exact ⟨z, z, z3, z, fun q => by cases q⟩
theorem pword_in (k : Int) (b : List Int) : U32 (pword k b).2.2.1 ∧ U8 (pword k b).2.2.2.1 ∧ U8 (pword k b).2.2.2.2.1 ∧ U64 (pword k b).2.2.2.2.2.2 ∧ ((pword k b).1 = true → (4 ≤ k ∧ k ≤ 7) ∧ (pword k b).2.1 = k) := by
  have z : U64 0 := ⟨by decide, by decide⟩
  have z3 : U32 0 := ⟨by decide, by decide⟩
  have z8 : U8 0 := ⟨by decide, by decide⟩
  unfold pword
  split
  · rename_i h
    split
    · rename_i x1 x2 x3 x4 x5 hg
      have hu := go_u64 _ _ _ hg
      split
      · exact ⟨z3, z8, z8, z, fun q => by cases q⟩
      · exact ⟨w32 _, w8 _, w8 _, hu x5 (by simp), fun _ => ⟨h, rfl⟩⟩
    · exact ⟨z3, z8, z8, z, fun q => by cases q⟩
  · exact ⟨z3, z8, z8, z, fun q => by cases q⟩
def wordW (k : Int) : ByteArray := ([(⟨#[97, 100, 100]⟩ : ByteArray), (⟨#[103, 111, 110, 101]⟩ : ByteArray), (⟨#[112, 114, 105, 111]⟩ : ByteArray), (⟨#[99, 108, 111, 115, 101]⟩ : ByteArray)] : List ByteArray).getD ((IntKind.wrap .u8 (k - 4)).toNat) ByteArray.empty
theorem wordW_sz (k : Int) (hk : 4 ≤ k ∧ k ≤ 7) : 1 ≤ (wordW k).size ∧ (wordW k).size ≤ 5 := by
  unfold wordW
  have : k = 4 ∨ k = 5 ∨ k = 6 ∨ k = 7 := by omega
  rcases this with rfl | rfl | rfl | rfl <;> decide
/-- What an option says. -/
def optOf (k : Int) (b : List Int) : ByteArray :=
  if (pkey k b).1 = true then lineB [⟨#[107, 101, 121]⟩, hxB 8 (pkey k b).2.1, whenB (pkey k b).2.2.1 (sumW (pkey k b).2.2.2)]
  else if (pjoin k b).1 = true then lineB [⟨#[106, 111, 105, 110]⟩, hxB 4 (pjoin k b).2.1, hxB 4 (pjoin k b).2.2.1, textB (pjoin k b).2.2.2.1, whenB (pjoin k b).2.2.2.2.1 ⟨#[98, 97, 99, 107, 117, 112]⟩, whenB (pjoin k b).2.2.2.2.2.1 (sumW (pjoin k b).2.2.2.2.2.2)]
  else if (pdata k b).1 = true then lineB [⟨#[100, 97, 116, 97]⟩, wideB (pdata k b).2.2.2.1, ⟨#[104, 97, 115]⟩, wideB (pdata k b).2.2.2.2.1, ⟨#[114, 111, 111, 109]⟩, textB (pdata k b).2.2.2.2.2.1, whenB (pdata k b).2.1 ⟨#[102, 105, 110]⟩, whenB (pdata k b).2.2.1 ⟨#[112, 114, 111, 98, 101]⟩, whenB true (sumW (pdata k b).2.2.2.2.2.2)]
  else if (pword k b).1 = true then lineB [wordW k, textB (pword k b).2.2.1, textB (pword k b).2.2.2.1, textB (pword k b).2.2.2.2.1, whenB (pword k b).2.2.2.2.2.1 ⟨#[98, 97, 99, 107, 117, 112]⟩, whenB true (sumW (pword k b).2.2.2.2.2.2)]
  else lineB [⟨#[111, 112, 116, 105, 111, 110]⟩, textB k, hexB b]
theorem nlit (c : UInt8) (l : List UInt8) : D ⟨(c :: l).toArray⟩ ≠ [] := by rw [D_lit]; simp
theorem line_small (x : ByteArray) (r : List ByteArray) (hx : D x ≠ []) (h : x.size + (r.map fun y => 1 + y.size).sum ≤ 2000) : (lineB (x :: r)).size ≤ 2000 := Nat.le_trans (line_sz x r hx) h
theorem optOf_sz (k : Int) (b : List Int) (hl : b.length ≤ 400) : (optOf k b).size ≤ 2000 := by
  unfold optOf
  split
  · refine line_small _ _ (nlit _ _) ?_
    have h1 := hxB_sz 8 (pkey k b).2.1
    have h2 := whenB_sz (pkey k b).2.2.1 (sumW (pkey k b).2.2.2); have h3 := sumW_sz (pkey k b).2.2.2
    simp only [List.map_cons, List.map_nil, List.sum_cons, List.sum_nil, sz_lit, List.length_cons, List.length_nil]; omega
  split
  · refine line_small _ _ (nlit _ _) ?_
    have h1 := hxB_sz 4 (pjoin k b).2.1; have h2 := hxB_sz 4 (pjoin k b).2.2.1; have h3 := text_sz (pjoin k b).2.2.2.1
    have h4 := whenB_sz (pjoin k b).2.2.2.2.1 ⟨#[98, 97, 99, 107, 117, 112]⟩
    have h5 := whenB_sz (pjoin k b).2.2.2.2.2.1 (sumW (pjoin k b).2.2.2.2.2.2); have h6 := sumW_sz (pjoin k b).2.2.2.2.2.2
    simp only [List.map_cons, List.map_nil, List.sum_cons, List.sum_nil, sz_lit, List.length_cons, List.length_nil] at h4 ⊢; omega
  split
  · refine line_small _ _ (nlit _ _) ?_
    have h1 := wideB_sz (pdata k b).2.2.2.1; have h2 := wideB_sz (pdata k b).2.2.2.2.1; have h3 := text_sz (pdata k b).2.2.2.2.2.1
    have h4 := whenB_sz (pdata k b).2.1 ⟨#[102, 105, 110]⟩; have h5 := whenB_sz (pdata k b).2.2.1 ⟨#[112, 114, 111, 98, 101]⟩
    have h6 := whenB_sz true (sumW (pdata k b).2.2.2.2.2.2); have h7 := sumW_sz (pdata k b).2.2.2.2.2.2
    simp only [List.map_cons, List.map_nil, List.sum_cons, List.sum_nil, sz_lit, List.length_cons, List.length_nil] at h4 h5 ⊢; omega
  split
  · rename_i hw
    have hk := ((pword_in k b).2.2.2.2 hw).1
    have h0 := wordW_sz k hk
    refine line_small _ _ (ne_of_sz h0.1) ?_
    have h1 := text_sz (pword k b).2.2.1; have h2 := text_sz (pword k b).2.2.2.1; have h3 := text_sz (pword k b).2.2.2.2.1
    have h4 := whenB_sz (pword k b).2.2.2.2.2.1 ⟨#[98, 97, 99, 107, 117, 112]⟩
    have h6 := whenB_sz true (sumW (pword k b).2.2.2.2.2.2); have h7 := sumW_sz (pword k b).2.2.2.2.2.2
    simp only [List.map_cons, List.map_nil, List.sum_cons, List.sum_nil, sz_lit, List.length_cons, List.length_nil] at h4 ⊢; omega
  · refine line_small _ _ (nlit _ _) ?_
    have h1 := text_sz k; have h2 := hexB_sz b
    simp only [List.map_cons, List.map_nil, List.sum_cons, List.sum_nil, sz_lit, List.length_cons, List.length_nil]; omega
theorem plain_ev (k : Int) (b : List Int) (hk : U8 k) (hb : Bytes b) (hl : b.length ≤ 400) (h1 : ¬ (pkey k b).1 = true) (h2 : ¬ (pjoin k b).1 = true) (h3 : ¬ (pdata k b).1 = true) (h4 : ¬ (pword k b).1 = true) :
    Ev (fun n => (f102_num_Text (IntKind.wrap .i64 k)).bind fun r185_0 => (f115_num_Hex b).bind fun r185_1 =>
      (f101_num_Line n [(⟨#[111, 112, 116, 105, 111, 110]⟩ : ByteArray), r185_0, r185_1]).bind fun r185_2 => some r185_2) (fun r => r = optOf k b) := by
  have e : optOf k b = lineB [⟨#[111, 112, 116, 105, 111, 110]⟩, textB k, hexB b] := by unfold optOf; rw [if_neg h1, if_neg h2, if_neg h3, if_neg h4]
  have hsz := optOf_sz k b hl
  rw [i64_id (by omega) (by omega)]
  refine Ev.bind (text_ev k (by omega) (by omega)) ?_
  rintro _ rfl
  refine Ev.bind (hex_ev b (by omega) hb) ?_
  rintro _ rfl
  rw [e] at hsz ⊢
  exact Ev.bind (line_ev _ (by simp) (by omega)) (fun r hr => Ev.some hr)
theorem opt_ev (k : Int) (b : List Int) (hk : U8 k) (hb : Bytes b) (hl : b.length ≤ 400) : Ev (fun n => f67_trace_Option n k b) (fun r => r = optOf k b) := by
  obtain ⟨a1, a2, a3⟩ := pkey_in k b
  obtain ⟨b1, b2, b3, b4, b5⟩ := pjoin_in k b
  obtain ⟨c1, c2, c3, c4, c5⟩ := pdata_in k b
  obtain ⟨d1, d2, d3, d4, d5⟩ := pword_in k b
  have hsz := optOf_sz k b hl
  unfold f67_trace_Option
  refine Ev.ite (fun q => ?_) (fun q => Ev.ite (fun q2 => ?_) (fun q2 => Ev.ite (fun q3 => ?_) (fun q3 => ?_)))
  · simp only [beq_iff_eq] at q
    refine Ev.bind (pkey_is k b hb hl) ?_
    rintro _ rfl
    refine Ev.ite (fun t => ?_) (fun t => plain_ev k b hk hb hl t (fun u => by have := b5 u; omega) (fun u => by have := c5 u; omega) (fun u => by have := (d5 u).1; omega))
    have e : optOf k b = _ := if_pos t
    rw [e] at hsz ⊢
    refine Ev.bind (hx_ev 8 (by omega) _ a1) ?_
    rintro _ rfl
    refine Ev.bind (sum_ev _ _ a2) ?_
    rintro _ rfl
    exact Ev.bind (line_ev _ (by simp) (by omega)) (fun r hr => Ev.some hr)
  · simp only [beq_iff_eq] at q q2
    have n1 : ¬ (pkey k b).1 = true := fun u => q (a3 u)
    refine Ev.bind (pjoin_is k b hb hl) ?_
    rintro _ rfl
    refine Ev.ite (fun t => ?_) (fun t => plain_ev k b hk hb hl n1 t (fun u => by have := c5 u; omega) (fun u => by have := (d5 u).1; omega))
    have e : optOf k b = _ := (if_neg n1).trans (if_pos t)
    rw [e] at hsz ⊢
    rw [u64_id (e := (pjoin k b).2.1) (by omega) (by omega), u64_id (e := (pjoin k b).2.2.1) (by omega) (by omega), i64_id (e := (pjoin k b).2.2.2.1) (by omega) (by omega)]
    refine Ev.bind (hx_ev 4 (by omega) _ ⟨b1.1, by omega⟩) ?_
    rintro _ rfl
    refine Ev.bind (hx_ev 4 (by omega) _ ⟨b2.1, by omega⟩) ?_
    rintro _ rfl
    refine Ev.bind (text_ev _ (by omega) (by omega)) ?_
    rintro _ rfl
    refine Ev.bind (when_ev _ _) ?_
    rintro _ rfl
    refine Ev.bind (sum_ev _ _ b4) ?_
    rintro _ rfl
    exact Ev.bind (line_ev _ (by simp) (by omega)) (fun r hr => Ev.some hr)
  · simp only [beq_iff_eq] at q q2 q3
    have n1 : ¬ (pkey k b).1 = true := fun u => q (a3 u)
    have n2 : ¬ (pjoin k b).1 = true := fun u => q2 (b5 u)
    refine Ev.bind (pdata_is k b hb hl) ?_
    rintro _ rfl
    refine Ev.ite (fun t => ?_) (fun t => plain_ev k b hk hb hl n1 n2 t (fun u => by have := (d5 u).1; omega))
    have e : optOf k b = _ := (if_neg n1).trans ((if_neg n2).trans (if_pos t))
    rw [e] at hsz ⊢
    rw [i64_id (e := (pdata k b).2.2.2.2.2.1) (by omega) (by omega)]
    refine Ev.bind (wide_ev _ c1) ?_
    rintro _ rfl
    refine Ev.bind (wide_ev _ c2) ?_
    rintro _ rfl
    refine Ev.bind (text_ev _ (by omega) (by omega)) ?_
    rintro _ rfl
    refine Ev.bind (when_ev _ _) ?_
    rintro _ rfl
    refine Ev.bind (when_ev _ _) ?_
    rintro _ rfl
    refine Ev.bind (sum_ev _ _ c4) ?_
    rintro _ rfl
    exact Ev.bind (line_ev _ (by simp) (by omega)) (fun r hr => Ev.some hr)
  · simp only [beq_iff_eq] at q q2 q3
    have n1 : ¬ (pkey k b).1 = true := fun u => q (a3 u)
    have n2 : ¬ (pjoin k b).1 = true := fun u => q2 (b5 u)
    have n3 : ¬ (pdata k b).1 = true := fun u => q3 (c5 u)
    refine Ev.bind (pword_is k b hb hl) ?_
    rintro _ rfl
    refine Ev.ite (fun t => ?_) (fun t => plain_ev k b hk hb hl n1 n2 n3 t)
    obtain ⟨hk4, hk5⟩ := d5 t
    have e : optOf k b = _ := (if_neg n1).trans ((if_neg n2).trans ((if_neg n3).trans (if_pos t)))
    rw [e] at hsz ⊢
    rw [i64_id (e := (pword k b).2.2.1) (by omega) (by omega), i64_id (e := (pword k b).2.2.2.1) (by omega) (by omega), i64_id (e := (pword k b).2.2.2.2.1) (by omega) (by omega)]
    refine Ev.bind (P := fun r => r = wordW k) ?_ ?_
    · unfold f114_trace_word
      rw [hk5]
      have h8 : IntKind.wrap .u8 (k - 4) = k - 4 := u8_id (by omega) (by omega)
      refine Ev.guard (by rw [h8]; omega) (Ev.some rfl)
    rintro _ rfl
    refine Ev.bind (text_ev _ (by omega) (by omega)) ?_
    rintro _ rfl
    refine Ev.bind (text_ev _ (by omega) (by omega)) ?_
    rintro _ rfl
    refine Ev.bind (text_ev _ (by omega) (by omega)) ?_
    rintro _ rfl
    refine Ev.bind (when_ev _ _) ?_
    rintro _ rfl
    refine Ev.bind (sum_ev _ _ d4) ?_
    rintro _ rfl
    exact Ev.bind (line_ev _ (by simp) (by omega)) (fun r hr => Ev.some hr)
end Go.Proofs.YtjoibacjpapncaaF26
