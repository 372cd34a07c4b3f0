/- What the document says of an option: the same: of the functions that text F26 prints. Conditions: none. -/
import Derived.Test.YtjoibacjpapncaaPureTraceOpt
namespace Go.Proofs.YtjoibacjpapncaaF26
open Go Zed Go.Proofs.YtjoibacjpapncaaLeaf
set_option linter.unusedVariables false
set_option linter.unusedSimpArgs false

theorem tl_sz {a : ByteArray} (h : 1 ≤ a.size) : tl (D a) = 32 :: D a := tl_ne (ne_of_sz h)
theorem tl_lit (c : UInt8) (l : List UInt8) : tl (D ⟨(c :: l).toArray⟩) = 32 :: c :: l := tl_ne (nlit c l)
theorem D_sum (t : Int) : D (sumW t) = [115, 117, 109, 32] ++ D (hxB 8 t) := by unfold sumW; rw [D_app]; rfl
theorem refopt_ev (k : Int) (b : List Int) (hk : U8 k) (hb : Bytes b) (hl : b.length ≤ 400) : Ev (fun n => f68_broughamref26_Option n k b) (fun r => r = optOf k b) := by
  obtain ⟨a1, a2, a3⟩ := pkey_in k b
  obtain ⟨b1, b2, b3, b4, b5⟩ := pjoin_in k b
  obtain ⟨c1, c2, c3, c4, c5⟩ := pdata_in k b
  obtain ⟨d1, d2, d3, d4, d5⟩ := pword_in k b
  unfold f68_broughamref26_Option
  refine Ev.bind (refPkey_is k b hb hl) ?_
  rintro _ rfl
  dsimp only
  refine Ev.ite (fun t => ?_) (fun n1 => ?_)
  · have e : optOf k b = _ := if_pos t
    have z1 := hxB_sz 8 (pkey k b).2.1; have z2 := hxB_sz 8 (pkey k b).2.2.2; have z3 := sumW_sz (pkey k b).2.2.2
    refine Ev.bind (refhx_ev 8 (by omega) _ a1) ?_
    rintro _ rfl
    refine Ev.guard (by rw [sz_lit]; simp only [List.length_cons, List.length_nil]; omega) (Ev.bind (refhx_ev 8 (by omega) _ a2) ?_)
    rintro _ rfl
    refine Ev.guard (by rw [sz_lit]; simp only [List.length_cons, List.length_nil]; omega) (Ev.bind (refwhen_ev (pkey k b).2.2.1 (sumW (pkey k b).2.2.2) (by omega) (by omega)) ?_)
    rintro w ⟨w1, w2⟩
    refine Ev.guard (by simp only [sz_app, sz_lit, List.length_cons, List.length_nil]; omega) (Ev.some (ext_D ?_))
    rw [e, line_D _ _ (nlit _ _)]
    simp only [D_app, D_lit, w1, List.flatMap_cons, List.flatMap_nil, tl_sz z1.1, List.append_assoc, List.cons_append, List.nil_append, List.append_nil]
  refine Ev.bind (refPjoin_is k b hb hl) ?_
  rintro _ rfl
  refine Ev.ite (fun t => ?_) (fun n2 => ?_)
  · have e : optOf k b = _ := (if_neg n1).trans (if_pos t)
    have z1 := hxB_sz 4 (pjoin k b).2.1; have z2 := hxB_sz 4 (pjoin k b).2.2.1; have z3 := text_sz (pjoin k b).2.2.2.1
    have z4 := hxB_sz 8 (pjoin k b).2.2.2.2.2.2; have z5 := sumW_sz (pjoin k b).2.2.2.2.2.2
    rw [u64_id (e := (pjoin k b).2.1) (by omega) (by omega), u64_id (e := (pjoin k b).2.2.1) (by omega) (by omega), i64_id (e := (pjoin k b).2.2.2.1) (by omega) (by omega)]
    refine Ev.bind (refhx_ev 4 (by omega) _ ⟨b1.1, by omega⟩) ?_
    rintro _ rfl
    refine Ev.guard (by simp only [sz_app, sz_lit, List.length_cons, List.length_nil]; omega) (Ev.guard (by simp only [sz_app, sz_lit, List.length_cons, List.length_nil]; omega) (Ev.bind (refhx_ev 4 (by omega) _ ⟨b2.1, by omega⟩) ?_))
    rintro _ rfl
    refine Ev.guard (by simp only [sz_app, sz_lit, List.length_cons, List.length_nil]; omega) (Ev.guard (by simp only [sz_app, sz_lit, List.length_cons, List.length_nil]; omega) (Ev.bind (textZ _ (by omega) (by omega)) ?_))
    rintro _ rfl
    refine Ev.guard (by simp only [sz_app, sz_lit, List.length_cons, List.length_nil]; omega) (Ev.bind (refwhen_ev (pjoin k b).2.2.2.2.1 ⟨#[98, 97, 99, 107, 117, 112]⟩ (by decide) (by decide)) ?_)
    rintro w ⟨w1, w2⟩
    have w2 : w.size ≤ 7 := w2
    refine Ev.guard (by simp only [sz_app, sz_lit, List.length_cons, List.length_nil]; omega) (Ev.bind (refhx_ev 8 (by omega) _ b4) ?_)
    rintro _ rfl
    refine Ev.guard (by simp only [sz_app, sz_lit, List.length_cons, List.length_nil]; omega) (Ev.bind (refwhen_ev (pjoin k b).2.2.2.2.2.1 (sumW (pjoin k b).2.2.2.2.2.2) (by omega) (by omega)) ?_)
    rintro v ⟨v1, v2⟩
    refine Ev.guard (by simp only [sz_app, sz_lit, List.length_cons, List.length_nil]; omega) (Ev.some (ext_D ?_))
    rw [e, line_D _ _ (nlit _ _)]
    simp only [D_app, D_lit, w1, v1, List.flatMap_cons, List.flatMap_nil, tl_sz z1.1, tl_sz z2.1, tl_sz z3.1, List.append_assoc, List.cons_append, List.nil_append, List.append_nil]
  refine Ev.bind (refPdata_is k b hb hl) ?_
  rintro _ rfl
  refine Ev.ite (fun t => ?_) (fun n3 => ?_)
  · have e : optOf k b = _ := (if_neg n1).trans ((if_neg n2).trans (if_pos t))
    have z1 := wideB_sz (pdata k b).2.2.2.1; have z2 := wideB_sz (pdata k b).2.2.2.2.1; have z3 := text_sz (pdata k b).2.2.2.2.2.1
    have z4 := hxB_sz 8 (pdata k b).2.2.2.2.2.2; have z5 := sumW_sz (pdata k b).2.2.2.2.2.2
    rw [i64_id (e := (pdata k b).2.2.2.2.2.1) (by omega) (by omega)]
    refine Ev.bind (refwide_ev _ c1) ?_
    rintro _ rfl
    refine Ev.guard (by simp only [sz_app, sz_lit, List.length_cons, List.length_nil]; omega) (Ev.guard (by simp only [sz_app, sz_lit, List.length_cons, List.length_nil]; omega) (Ev.bind (refwide_ev _ c2) ?_))
    rintro _ rfl
    refine Ev.guard (by simp only [sz_app, sz_lit, List.length_cons, List.length_nil]; omega) (Ev.guard (by simp only [sz_app, sz_lit, List.length_cons, List.length_nil]; omega) (Ev.bind (textZ _ (by omega) (by omega)) ?_))
    rintro _ rfl
    refine Ev.guard (by simp only [sz_app, sz_lit, List.length_cons, List.length_nil]; omega) (Ev.bind (refwhen_ev (pdata k b).2.1 ⟨#[102, 105, 110]⟩ (by decide) (by decide)) ?_)
    rintro w ⟨w1, w2⟩
    have w2 : w.size ≤ 4 := w2
    refine Ev.guard (by simp only [sz_app, sz_lit, List.length_cons, List.length_nil]; omega) (Ev.bind (refwhen_ev (pdata k b).2.2.1 ⟨#[112, 114, 111, 98, 101]⟩ (by decide) (by decide)) ?_)
    rintro v ⟨v1, v2⟩
    have v2 : v.size ≤ 6 := v2
    refine Ev.guard (by simp only [sz_app, sz_lit, List.length_cons, List.length_nil]; omega) (Ev.guard (by simp only [sz_app, sz_lit, List.length_cons, List.length_nil]; omega) (Ev.bind (refhx_ev 8 (by omega) _ c4) ?_))
    rintro _ rfl
    refine Ev.guard (by simp only [sz_app, sz_lit, List.length_cons, List.length_nil]; omega) (Ev.some (ext_D ?_))
    rw [e, line_D _ _ (nlit _ _)]
    have hs : tl (D (whenB true (sumW (pdata k b).2.2.2.2.2.2))) = 32 :: ([115, 117, 109, 32] ++ D (hxB 8 (pdata k b).2.2.2.2.2.2)) := by
      rw [← D_sum]; exact tl_sz z5.1
    simp only [D_app, D_lit, w1, v1, hs, List.flatMap_cons, List.flatMap_nil, tl_sz z1.1, tl_sz z2.1, tl_sz z3.1, tl_lit, List.append_assoc, List.cons_append, List.nil_append, List.append_nil]
    rw [tl_ne (y := [104, 97, 115]) (by simp), tl_ne (y := [114, 111, 111, 109]) (by simp)]
    simp only [List.append_assoc, List.cons_append, List.nil_append, List.append_nil]
  refine Ev.bind (refPword_is k b hb hl) ?_
  rintro _ rfl
  dsimp only
  refine Ev.ite (fun t => ?_) (fun n4 => ?_)
  · obtain ⟨hk4, hk5⟩ := d5 t
    have e : optOf k b = _ := (if_neg n1).trans ((if_neg n2).trans ((if_neg n3).trans (if_pos t)))
    have z0 := wordW_sz k hk4
    have z1 := text_sz (pword k b).2.2.1; have z2 := text_sz (pword k b).2.2.2.1; have z3 := text_sz (pword k b).2.2.2.2.1
    have z4 := hxB_sz 8 (pword k b).2.2.2.2.2.2; have z5 := sumW_sz (pword k b).2.2.2.2.2.2
    rw [i64_id (e := (pword k b).2.2.1) (by omega) (by omega), i64_id (e := (pword k b).2.2.2.1) (by omega) (by omega), i64_id (e := (pword k b).2.2.2.2.1) (by omega) (by omega)]
    have h8 : IntKind.wrap .u8 (k - 4) = k - 4 := u8_id (by omega) (by omega)
    refine Ev.guard (by rw [h8]; simp only [List.length_cons, List.length_nil]; omega) ?_
    have hw : ([(⟨#[97, 100, 100]⟩ : ByteArray), (⟨#[103, 111, 110, 101]⟩ : ByteArray), (⟨#[112, 114, 105, 111]⟩ : ByteArray), (⟨#[99, 108, 111, 115, 101]⟩ : ByteArray)].getD (IntKind.wrap .u8 (k - 4)).toNat ByteArray.empty) = wordW k := rfl
    rw [hw]
    refine Ev.guard (by simp only [sz_app, sz_lit, List.length_cons, List.length_nil]; omega) (Ev.bind (textZ _ (by omega) (by omega)) ?_)
    rintro _ rfl
    refine Ev.guard (by simp only [sz_app, sz_lit, List.length_cons, List.length_nil]; omega) (Ev.guard (by simp only [sz_app, sz_lit, List.length_cons, List.length_nil]; omega) (Ev.bind (textZ _ (by omega) (by omega)) ?_))
    rintro _ rfl
    refine Ev.guard (by simp only [sz_app, sz_lit, List.length_cons, List.length_nil]; omega) (Ev.guard (by simp only [sz_app, sz_lit, List.length_cons, List.length_nil]; omega) (Ev.bind (textZ _ (by omega) (by omega)) ?_))
    rintro _ rfl
    refine Ev.guard (by simp only [sz_app, sz_lit, List.length_cons, List.length_nil]; omega) (Ev.bind (refwhen_ev (pword k b).2.2.2.2.2.1 ⟨#[98, 97, 99, 107, 117, 112]⟩ (by decide) (by decide)) ?_)
    rintro w ⟨w1, w2⟩
    have w2 : w.size ≤ 7 := w2
    refine Ev.guard (by simp only [sz_app, sz_lit, List.length_cons, List.length_nil]; omega) (Ev.guard (by simp only [sz_app, sz_lit, List.length_cons, List.length_nil]; omega) (Ev.bind (refhx_ev 8 (by omega) _ d4) ?_))
    rintro _ rfl
    refine Ev.guard (by simp only [sz_app, sz_lit, List.length_cons, List.length_nil]; omega) (Ev.some (ext_D ?_))
    rw [e, line_D _ _ (ne_of_sz z0.1)]
    have hs : tl (D (whenB true (sumW (pword k b).2.2.2.2.2.2))) = 32 :: ([115, 117, 109, 32] ++ D (hxB 8 (pword k b).2.2.2.2.2.2)) := by
      rw [← D_sum]; exact tl_sz z5.1
    simp only [D_app, D_lit, w1, hs, List.flatMap_cons, List.flatMap_nil, tl_sz z1.1, tl_sz z2.1, tl_sz z3.1, List.append_assoc, List.cons_append, List.nil_append, List.append_nil]
  · have e : optOf k b = _ := (if_neg n1).trans ((if_neg n2).trans ((if_neg n3).trans (if_neg n4)))
    have z1 := text_sz k; have z2 := hexB_sz b
    rw [i64_id (e := k) (by omega) (by omega)]
    refine Ev.bind (textZ k (by omega) (by omega)) ?_
    rintro _ rfl
    refine Ev.guard (by simp only [sz_app, sz_lit, List.length_cons, List.length_nil]; omega) (Ev.guard (by simp only [sz_app, sz_lit, List.length_cons, List.length_nil]; omega) (Ev.bind (refhex_is b (by omega) hb) ?_))
    rintro _ rfl
    refine Ev.guard (by simp only [sz_app, sz_lit, List.length_cons, List.length_nil]; omega) (Ev.some (ext_D ?_))
    rw [e, line_D _ _ (nlit _ _)]
    simp only [D_app, D_lit, List.flatMap_cons, List.flatMap_nil, tl_sz z1.1, tl_sz z2.1, List.append_assoc, List.cons_append, List.nil_append, List.append_nil]
end Go.Proofs.YtjoibacjpapncaaF26
