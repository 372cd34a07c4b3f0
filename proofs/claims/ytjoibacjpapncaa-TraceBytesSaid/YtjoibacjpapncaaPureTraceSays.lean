/- TraceSays: what any segment and any option say: of the functions that text F26 prints. Conditions: none. -/
import Derived.Test.YtjoibacjpapncaaPureTraceRef
namespace Go.Proofs.YtjoibacjpapncaaF26
open Go Zed Go.Proofs.YtjoibacjpapncaaLeaf
set_option linter.unusedVariables false
set_option linter.unusedSimpArgs false

/-- The flags' words. -/
def flagB (b1 b2 b3 : Bool) : ByteArray := if b1 || b2 || b3 then lineB [whenB b1 ⟨#[115, 121, 110]⟩, whenB b2 ⟨#[97, 99, 107]⟩, whenB b3 ⟨#[114, 115, 116]⟩] else ⟨#[110, 111, 110, 101]⟩
theorem line3 (b1 b2 b3 : Bool) : (lineB [whenB b1 ⟨#[115, 121, 110]⟩, whenB b2 ⟨#[97, 99, 107]⟩, whenB b3 ⟨#[114, 115, 116]⟩]).size ≤ 11 := by
  cases b1 <;> cases b2 <;> cases b3 <;> decide
theorem line3_nil (b1 b2 b3 : Bool) : decide ((lineB [whenB b1 ⟨#[115, 121, 110]⟩, whenB b2 ⟨#[97, 99, 107]⟩, whenB b3 ⟨#[114, 115, 116]⟩]).data.toList = (⟨#[]⟩ : ByteArray).data.toList) = !(b1 || b2 || b3) := by
  cases b1 <;> cases b2 <;> cases b3 <;> decide
theorem flagB_sz (b1 b2 b3 : Bool) : 1 ≤ (flagB b1 b2 b3).size ∧ (flagB b1 b2 b3).size ≤ 11 := by
  cases b1 <;> cases b2 <;> cases b3 <;> decide
theorem flagB_tl (b1 b2 b3 : Bool) (h : (b1 || b2 || b3) = true) : 32 :: D (flagB b1 b2 b3) = tl (D (whenB b1 ⟨#[115, 121, 110]⟩)) ++ tl (D (whenB b2 ⟨#[97, 99, 107]⟩)) ++ tl (D (whenB b3 ⟨#[114, 115, 116]⟩)) := by
  revert h
  cases b1 <;> cases b2 <;> cases b3 <;> decide
theorem flagB_no (b1 b2 b3 : Bool) (h : ¬ (b1 || b2 || b3) = true) : flagB b1 b2 b3 = ⟨#[110, 111, 110, 101]⟩ := if_neg h
theorem unnot {b : Bool} (h : ¬ (!b) = true) : b = true := by cases b <;> simp_all
theorem tl_len0 (y : List UInt8) : (tl y = []) ↔ y = [] := by
  unfold tl; split <;> simp_all
theorem bit1 : ∀ f : Fin 256, ((bits .and .u8 (f.val : Int) 1) != 0) = (Int.tmod (f.val : Int) 2 == 1) := by decide +kernel
theorem bit2 : ∀ f : Fin 256, ((bits .and .u8 (f.val : Int) 2) != 0) = (Int.tmod (IntKind.wrap .u8 (Int.tdiv (f.val : Int) 2)) 2 == 1) := by decide +kernel
theorem bit3 : ∀ f : Fin 256, ((bits .and .u8 (f.val : Int) 4) != 0) = (Int.tmod (IntKind.wrap .u8 (Int.tdiv (f.val : Int) 4)) 2 == 1) := by decide +kernel
def g1 (f : Int) : Bool := (Int.tmod f 2 : Int) == 1
def g2 (f : Int) : Bool := (Int.tmod (IntKind.wrap .u8 (Int.tdiv f 2)) 2 : Int) == 1
def g3 (f : Int) : Bool := (Int.tmod (IntKind.wrap .u8 (Int.tdiv f 4)) 2 : Int) == 1
theorem bits_g (f : Int) (h : U8 f) : ((bits .and .u8 f 1) != 0) = g1 f ∧ ((bits .and .u8 f 2) != 0) = g2 f ∧ ((bits .and .u8 f 4) != 0) = g3 f := by
  obtain ⟨n, rfl⟩ := Int.eq_ofNat_of_zero_le h.1
  have hn : n < 256 := by have := h.2; omega
  exact ⟨bit1 ⟨n, hn⟩, bit2 ⟨n, hn⟩, bit3 ⟨n, hn⟩⟩
theorem flags_ev (f : Int) (h : U8 f) : Ev (fun n => f104_trace_flags n f) (fun r => r = flagB (g1 f) (g2 f) (g3 f)) := by
  obtain ⟨e1, e2, e3⟩ := bits_g f h
  unfold f104_trace_flags
  rw [e1, e2, e3]
  generalize g1 f = b1
  generalize g2 f = b2
  generalize g3 f = b3
  refine Ev.bind (when_ev _ _) ?_
  rintro _ rfl
  refine Ev.bind (when_ev _ _) ?_
  rintro _ rfl
  refine Ev.bind (when_ev _ _) ?_
  rintro _ rfl
  refine Ev.bind (line_ev _ (by simp) (by have := line3 b1 b2 b3; omega)) ?_
  rintro _ rfl
  rw [str_dec, line3_nil]
  refine Ev.ite (fun c => Ev.some ?_) (fun c => Ev.some ?_)
  · rw [flagB_no _ _ _ (by simpa using c)]
  · exact (if_pos (unnot c)).symm
/-- What a segment says: its head; its options; how much data. -/
def headB (s0 s1 s2 s3 s4 : Int) : ByteArray := lineB [textB s0, textB s1, ⟨#[115, 101, 113]⟩, hxB 4 s2, ⟨#[97, 99, 107]⟩, hxB 4 s3, flagB (g1 s4) (g2 s4) (g3 s4)]
def optsT : List O → List UInt8
  | [] => []
  | o :: l => 59 :: 32 :: D (optOf o.1 o.2) ++ optsT l
def segT (s0 s1 s2 s3 s4 : Int) (l : List O) (d : List Int) : List UInt8 := D (headB s0 s1 s2 s3 s4) ++ optsT l ++ (59 :: 32 :: D (textB (d.length : Int)))
def okOs (l : List O) : Prop := l.length ≤ 1000 ∧ ∀ o ∈ l, U8 o.1 ∧ Bytes o.2 ∧ o.2.length ≤ 400
theorem headB_sz (s0 s1 s2 s3 s4 : Int) : (headB s0 s1 s2 s3 s4).size ≤ 2000 := by
  have h0 := text_sz s0; have h1 := text_sz s1; have h2 := hxB_sz 4 s2; have h3 := hxB_sz 4 s3; have h4 := flagB_sz (g1 s4) (g2 s4) (g3 s4)
  refine line_small _ _ (ne_of_sz h0.1) ?_
  simp only [List.map_cons, List.map_nil, List.sum_cons, List.sum_nil, sz_lit, List.length_cons, List.length_nil]; omega
theorem headB_D (s0 s1 s2 s3 s4 : Int) : D (headB s0 s1 s2 s3 s4) = D (textB s0) ++ 32 :: (D (textB s1) ++ [32, 115, 101, 113, 32] ++ D (hxB 4 s2) ++ [32, 97, 99, 107, 32] ++ D (hxB 4 s3) ++ 32 :: D (flagB (g1 s4) (g2 s4) (g3 s4))) := by
  have h0 := text_sz s0; have h1 := text_sz s1; have h2 := hxB_sz 4 s2; have h3 := hxB_sz 4 s3; have h4 := flagB_sz (g1 s4) (g2 s4) (g3 s4)
  unfold headB
  rw [line_D _ _ (ne_of_sz h0.1)]
  simp only [D_lit, List.flatMap_cons, List.flatMap_nil, tl_sz h1.1, tl_sz h2.1, tl_sz h3.1, tl_sz h4.1, List.append_assoc, List.cons_append, List.nil_append, List.append_nil]
  rw [tl_ne (y := [115, 101, 113]) (by simp), tl_ne (y := [97, 99, 107]) (by simp)]
  simp only [List.append_assoc, List.cons_append, List.nil_append, List.append_nil]
theorem optsT_app (l : List O) (o : O) : optsT (l ++ [o]) = optsT l ++ (59 :: 32 :: D (optOf o.1 o.2)) := by
  induction l with
  | nil => simp [optsT]
  | cons p l ih => simp only [List.cons_append, optsT, ih, List.append_assoc]
theorem optsT_len (l : List O) (h : ∀ o ∈ l, o.2.length ≤ 400) : (optsT l).length ≤ 2002 * l.length := by
  induction l with
  | nil => simp [optsT]
  | cons p l ih =>
    have h1 := optOf_sz p.1 p.2 (h p List.mem_cons_self)
    rw [sz_D] at h1
    have h2 := ih (fun o ho => h o (List.mem_cons_of_mem _ ho))
    simp only [optsT, List.length_append, List.length_cons]; omega
theorem seg_loop (l : List O) (s0 s1 s2 s3 s4 : Int) (d : List Int) (hd : ByteArray) (h0 : hd.size ≤ 2000) (ho : okOs l) : ∀ (k i : Nat) (hi : i + k = l.length) (out : ByteArray) (hout : D out = D hd ++ optsT (l.take i)),
    Ev (fun n => f65_trace_Segment_L3 n out l ((l.length : Nat) : Int) (i : Int) s0 s1 s2 s3 s4 l d) (fun w => ∃ out, w = (out, s0, s1, s2, s3, s4, l, d) ∧ D out = D hd ++ optsT l)
  | 0, i, hi, out, hout => by
    apply Ev.succ
    unfold f65_trace_Segment_L3
    refine Ev.neg (by simp only [decide_eq_true_eq]; omega) (Ev.some ⟨out, rfl, ?_⟩)
    rw [hout, List.take_of_length_le (by omega)]
  | k + 1, i, hi, out, hout => by
    have hil : i < l.length := by omega
    have hm := ho.2 _ (getD_mem hil (0, []))
    have hsz : out.size ≤ 2004000 := by
      have h1 := optsT_len (l.take i) (fun o q => (ho.2 o (List.mem_of_mem_take q)).2.2)
      have h2 := ho.1
      rw [List.length_take] at h1
      rw [sz_D] at h0
      rw [sz_D, hout, List.length_append]; omega
    apply Ev.succ
    unfold f65_trace_Segment_L3
    rw [Int.toNat_natCast, i64_id (e := (i : Int) + 1) (by have := ho.1; omega) (by have := ho.1; omega)]
    refine Ev.pos (by simp only [decide_eq_true_eq]; omega) (Ev.guard (by omega) (Ev.bind (opt_ev _ _ hm.1 hm.2.1 hm.2.2) ?_))
    rintro _ rfl
    have h1 := optOf_sz (l.getD i (0, [])).1 (l.getD i (0, [])).2 hm.2.2
    refine Ev.guard (by simp only [sz_app, sz_lit, List.length_cons, List.length_nil]; omega) (Ev.guard (by simp only [sz_app, sz_lit, List.length_cons, List.length_nil]; omega) ?_)
    refine seg_loop l s0 s1 s2 s3 s4 d hd h0 ho k (i + 1) (by omega) _ ?_
    rw [take_snoc l hil, optsT_app, D_app, D_app, hout, List.append_assoc]; rfl
theorem ref_loop (l : List O) (s0 s1 s2 s3 s4 : Int) (d : List Int) (hd : ByteArray) (h0 : hd.size ≤ 2000) (ho : okOs l) : ∀ (k i : Nat) (hi : i + k = l.length) (out : ByteArray) (hout : D out = D hd ++ optsT (l.take i)),
    Ev (fun n => f66_broughamref26_Segment_L6 n out (i : Int) s0 s1 s2 s3 s4 l d) (fun w => ∃ out, w = (out, s0, s1, s2, s3, s4, l, d) ∧ D out = D hd ++ optsT l)
  | 0, i, hi, out, hout => by
    apply Ev.succ
    unfold f66_broughamref26_Segment_L6
    refine Ev.neg (by simp only [decide_eq_true_eq]; omega) (Ev.some ⟨out, rfl, ?_⟩)
    rw [hout, List.take_of_length_le (by omega)]
  | k + 1, i, hi, out, hout => by
    have hil : i < l.length := by omega
    have hm := ho.2 _ (getD_mem hil (0, []))
    have hsz : out.size ≤ 2004000 := by
      have h1 := optsT_len (l.take i) (fun o q => (ho.2 o (List.mem_of_mem_take q)).2.2)
      have h2 := ho.1
      rw [List.length_take] at h1
      rw [sz_D] at h0
      rw [sz_D, hout, List.length_append]; omega
    apply Ev.succ
    unfold f66_broughamref26_Segment_L6
    rw [Int.toNat_natCast, i64_id (e := (i : Int) + 1) (by have := ho.1; omega) (by have := ho.1; omega)]
    refine Ev.pos (by simp only [decide_eq_true_eq]; omega) (Ev.guard (by omega) (Ev.bind (refopt_ev _ _ hm.1 hm.2.1 hm.2.2) ?_))
    rintro _ rfl
    have h1 := optOf_sz (l.getD i (0, [])).1 (l.getD i (0, [])).2 hm.2.2
    refine Ev.guard (by simp only [sz_app, sz_lit, List.length_cons, List.length_nil]; omega) (Ev.guard (by simp only [sz_app, sz_lit, List.length_cons, List.length_nil]; omega) ?_)
    refine ref_loop l s0 s1 s2 s3 s4 d hd h0 ho k (i + 1) (by omega) _ ?_
    rw [take_snoc l hil, optsT_app, D_app, D_app, hout, List.append_assoc]; rfl
theorem seg_sz {s0 s1 s2 s3 s4 : Int} {l : List O} {hd out : ByteArray} (h0 : hd.size ≤ 2000) (ho : okOs l) (h : D out = D hd ++ optsT l) : out.size ≤ 2004000 := by
  have h1 := optsT_len l (fun o q => (ho.2 o q).2.2)
  have h2 := ho.1
  rw [sz_D] at h0
  rw [sz_D, h, List.length_append]; omega
theorem segment_ev (s0 s1 s2 s3 s4 : Int) (l : List O) (d : List Int) (h0 : U16 s0) (h1 : U16 s1) (h2 : U32 s2) (h3 : U32 s3) (h4 : U8 s4) (ho : okOs l) (hd : d.length ≤ 100000) :
    Ev (fun n => f65_trace_Segment n s0 s1 s2 s3 s4 l d) (fun r => D r = segT s0 s1 s2 s3 s4 l d ∧ r.size ≤ 2005000) := by
  have hh := headB_sz s0 s1 s2 s3 s4
  unfold f65_trace_Segment
  rw [i64_id (e := s0) (by omega) (by omega), i64_id (e := s1) (by omega) (by omega), u64_id (e := s2) (by omega) (by omega), u64_id (e := s3) (by omega) (by omega)]
  refine Ev.bind (text_ev s0 (by omega) (by omega)) ?_
  rintro _ rfl
  refine Ev.bind (text_ev s1 (by omega) (by omega)) ?_
  rintro _ rfl
  refine Ev.bind (hx_ev 4 (by omega) s2 ⟨h2.1, by omega⟩) ?_
  rintro _ rfl
  refine Ev.bind (hx_ev 4 (by omega) s3 ⟨h3.1, by omega⟩) ?_
  rintro _ rfl
  refine Ev.bind (flags_ev s4 h4) ?_
  rintro _ rfl
  refine Ev.bind (P := fun r => r = headB s0 s1 s2 s3 s4) (line_ev _ (by simp) (by show (headB s0 s1 s2 s3 s4).size ≤ _; omega)) ?_
  rintro _ rfl
  refine Ev.bind (seg_loop l s0 s1 s2 s3 s4 d _ hh ho l.length 0 (by omega) _ (by simp [optsT])) ?_
  rintro _ ⟨out, rfl, hout⟩
  dsimp only
  have hsz := seg_sz (s0 := s0) (s1 := s1) (s2 := s2) (s3 := s3) (s4 := s4) hh ho hout
  have ht := text_sz (d.length : Int)
  refine Ev.guard (by simp only [sz_app, sz_lit, List.length_cons, List.length_nil]; omega) (Ev.bind (text_ev _ (by omega) (by omega)) ?_)
  rintro _ rfl
  refine Ev.guard (by simp only [sz_app, sz_lit, List.length_cons, List.length_nil]; omega) (Ev.some ⟨?_, by simp only [sz_app, sz_lit, List.length_cons, List.length_nil]; omega⟩)
  rw [D_app, D_app, hout, segT]
  simp [D_lit]
theorem refsegment_ev (s0 s1 s2 s3 s4 : Int) (l : List O) (d : List Int) (h0 : U16 s0) (h1 : U16 s1) (h2 : U32 s2) (h3 : U32 s3) (h4 : U8 s4) (ho : okOs l) (hd : d.length ≤ 100000) :
    Ev (fun n => f66_broughamref26_Segment n s0 s1 s2 s3 s4 l d) (fun r => D r = segT s0 s1 s2 s3 s4 l d ∧ r.size ≤ 2005000) := by
  have hh := headB_sz s0 s1 s2 s3 s4
  have z0 := text_sz s0; have z1 := text_sz s1; have z2 := hxB_sz 4 s2; have z3 := hxB_sz 4 s3
  have ht := text_sz (d.length : Int)
  have fin : ∀ hd : ByteArray, D hd = D (headB s0 s1 s2 s3 s4) → Ev (fun n => (f66_broughamref26_Segment_L6 n hd 0 s0 s1 s2 s3 s4 l d).bind fun w421 =>
      if w421.1.size + (⟨#[59, 32]⟩ : ByteArray).size ≤ 9223372036854775807 then
      (f70_broughamref01_Text n ((w421.2.2.2.2.2.2.2.length : Nat) : Int)).bind fun r423_1 =>
      if (w421.1 ++ (⟨#[59, 32]⟩ : ByteArray)).size + r423_1.size ≤ 9223372036854775807 then
      some ((w421.1 ++ (⟨#[59, 32]⟩ : ByteArray)) ++ r423_1)
      else none
      else none) (fun r => D r = segT s0 s1 s2 s3 s4 l d ∧ r.size ≤ 2005000) := by
    intro h he
    have hh2 : h.size ≤ 2000 := by rw [sz_D, he, ← sz_D]; exact hh
    refine Ev.bind (ref_loop l s0 s1 s2 s3 s4 d h hh2 ho l.length 0 (by omega) _ (by simp [optsT])) ?_
    rintro _ ⟨out, rfl, hout⟩
    dsimp only
    have hsz := seg_sz (s0 := s0) (s1 := s1) (s2 := s2) (s3 := s3) (s4 := s4) hh2 ho hout
    refine Ev.guard (by simp only [sz_app, sz_lit, List.length_cons, List.length_nil]; omega) (Ev.bind (textZ _ (by omega) (by omega)) ?_)
    rintro _ rfl
    refine Ev.guard (by simp only [sz_app, sz_lit, List.length_cons, List.length_nil]; omega) (Ev.some ⟨?_, by simp only [sz_app, sz_lit, List.length_cons, List.length_nil]; omega⟩)
    rw [D_app, D_app, hout, he, segT]
    simp [D_lit]
  unfold f66_broughamref26_Segment
  rw [i64_id (e := s0) (by omega) (by omega), i64_id (e := s1) (by omega) (by omega), u64_id (e := s2) (by omega) (by omega), u64_id (e := s3) (by omega) (by omega)]
  refine Ev.bind (refwhen_ev (g1 s4) ⟨#[115, 121, 110]⟩ (by decide) (by decide)) ?_
  rintro w1 ⟨a1, a2⟩
  have a2 : w1.size ≤ 4 := a2
  refine Ev.bind (refwhen_ev (g2 s4) ⟨#[97, 99, 107]⟩ (by decide) (by decide)) ?_
  rintro w2 ⟨b1, b2⟩
  have b2 : w2.size ≤ 4 := b2
  refine Ev.guard (by omega) (Ev.bind (refwhen_ev (g3 s4) ⟨#[114, 115, 116]⟩ (by decide) (by decide)) ?_)
  rintro w3 ⟨c1, c2⟩
  have c2 : w3.size ≤ 4 := c2
  refine Ev.guard (by rw [sz_app]; omega) ?_
  have hnil : ((w1 ++ w2 ++ w3).toList == (⟨#[]⟩ : ByteArray).toList) = !(g1 s4 || g2 s4 || g3 s4) := by
    rw [str_dec]
    show decide (D (w1 ++ w2 ++ w3) = []) = _
    rw [D_app, D_app, a1, b1, c1]
    generalize g1 s4 = x1
    generalize g2 s4 = x2
    generalize g3 s4 = x3
    cases x1 <;> cases x2 <;> cases x3 <;> decide
  rw [hnil]
  refine Ev.ite (fun c => ?_) (fun c => ?_)
  · refine Ev.bind (textZ s0 (by omega) (by omega)) ?_
    rintro _ rfl
    refine Ev.guard (by simp only [sz_app, sz_lit, List.length_cons, List.length_nil]; omega) (Ev.bind (textZ s1 (by omega) (by omega)) ?_)
    rintro _ rfl
    refine Ev.guard (by simp only [sz_app, sz_lit, List.length_cons, List.length_nil]; omega) (Ev.guard (by simp only [sz_app, sz_lit, List.length_cons, List.length_nil]; omega) (Ev.bind (refhx_ev 4 (by omega) s2 ⟨h2.1, by omega⟩) ?_))
    rintro _ rfl
    refine Ev.guard (by simp only [sz_app, sz_lit, List.length_cons, List.length_nil]; omega) (Ev.guard (by simp only [sz_app, sz_lit, List.length_cons, List.length_nil]; omega) (Ev.bind (refhx_ev 4 (by omega) s3 ⟨h3.1, by omega⟩) ?_))
    rintro _ rfl
    refine Ev.guard (by simp only [sz_app, sz_lit, List.length_cons, List.length_nil]; omega) (Ev.guard (by simp only [sz_app, sz_lit, List.length_cons, List.length_nil]; omega) (fin _ ?_))
    rw [headB_D, flagB_no _ _ _ (by simpa using c)]
    simp only [D_app, D_lit, List.append_assoc, List.cons_append, List.nil_append, List.append_nil]
  · refine Ev.bind (textZ s0 (by omega) (by omega)) ?_
    rintro _ rfl
    refine Ev.guard (by simp only [sz_app, sz_lit, List.length_cons, List.length_nil]; omega) (Ev.bind (textZ s1 (by omega) (by omega)) ?_)
    rintro _ rfl
    refine Ev.guard (by simp only [sz_app, sz_lit, List.length_cons, List.length_nil]; omega) (Ev.guard (by simp only [sz_app, sz_lit, List.length_cons, List.length_nil]; omega) (Ev.bind (refhx_ev 4 (by omega) s2 ⟨h2.1, by omega⟩) ?_))
    rintro _ rfl
    refine Ev.guard (by simp only [sz_app, sz_lit, List.length_cons, List.length_nil]; omega) (Ev.guard (by simp only [sz_app, sz_lit, List.length_cons, List.length_nil]; omega) (Ev.bind (refhx_ev 4 (by omega) s3 ⟨h3.1, by omega⟩) ?_))
    rintro _ rfl
    refine Ev.guard (by simp only [sz_app, sz_lit, List.length_cons, List.length_nil]; omega) (Ev.guard (by simp only [sz_app, sz_lit, List.length_cons, List.length_nil]; omega) (fin _ ?_))
    rw [headB_D, flagB_tl _ _ _ (unnot c)]
    simp only [D_app, D_lit, a1, b1, c1, List.append_assoc, List.cons_append, List.nil_append, List.append_nil]
theorem alive_ev : Ev (fun n => f69_broughamlaw26_alive n) (fun r => r = true) := Ev.at 80 (fun m => by kernel_rfl) rfl
theorem TraceSays (s : Int × Int × Int × Int × Int × List (Int × List Int) × List Int) (h0 : K.ok (.pair (.int .u16) (.pair (.int .u16) (.pair (.int .u32) (.pair (.int .u32) (.pair (.int .u8) (.pair (.slice (.pair (.int .u8) (.slice (.int .u8)))) (.slice (.int .u8)))))))) s) (o : Int × List Int) (h1 : K.ok (.pair (.int .u8) (.slice (.int .u8))) o) :
    ∃ n, f13_broughamlaw26_TraceSays n s.1 s.2.1 s.2.2.1 s.2.2.2.1 s.2.2.2.2.1 s.2.2.2.2.2.1 s.2.2.2.2.2.2 o.1 o.2 = some true := by
  obtain ⟨s0, s1, s2, s3, s4, l, d⟩ := s
  obtain ⟨a0, a1, a2, a3, a4, a5, a6⟩ := h0
  obtain ⟨k, b⟩ := o
  obtain ⟨b0, b1⟩ := h1
  have h0 := ok_u16 a0; have h1 := ok_u16 a1; have h2 := ok_u32 a2; have h3 := ok_u32 a3; have h4 := ok_u8 a4
  have hk := ok_u8 b0; have hb := ok_bytes b1
  apply Ev.true
  unfold f13_broughamlaw26_TraceSays
  dsimp only
  refine Ev.bind (great_is s0 s1 s2 s3 s4 l d) ?_
  rintro _ (rfl | ⟨rfl, g1, g2, g3⟩)
  · exact Ev.pos rfl (Ev.some rfl)
  refine Ev.neg (by simp) (Ev.ite (fun _ => Ev.some rfl) fun c => ?_)
  simp only [decide_eq_true_eq] at c
  have ho : okOs l := ⟨by omega, fun o q => ⟨ok_u8 (a5.2 o q).1, ok_bytes (a5.2 o q).2, g3 o q⟩⟩
  refine Ev.bind (segment_ev s0 s1 s2 s3 s4 l d h0 h1 h2 h3 h4 ho (by omega)) ?_
  rintro r1 ⟨e1, _⟩
  refine Ev.bind (refsegment_ev s0 s1 s2 s3 s4 l d h0 h1 h2 h3 h4 ho (by omega)) ?_
  rintro r2 ⟨e2, _⟩
  refine Ev.pos (D_eq (e1.trans e2.symm)) ?_
  refine Ev.bind (opt_ev k b hk hb (by omega)) ?_
  rintro _ rfl
  refine Ev.bind (refopt_ev k b hk hb (by omega)) ?_
  rintro _ rfl
  exact Ev.pos (str_refl _) (Ev.bind alive_ev (fun r hr => Ev.some hr))
end Go.Proofs.YtjoibacjpapncaaF26
