/- TraceBytes: what any bytes say, and packets on their paths: of the functions that text F26 prints. Conditions: none. -/
import Derived.Test.YtjoibacjpapncaaPureTraceSays
namespace Go.Proofs.YtjoibacjpapncaaF26
open Go Zed Go.Proofs.YtjoibacjpapncaaLeaf
set_option linter.unusedVariables false
set_option linter.unusedSimpArgs false

theorem optsP_ok : ∀ (f : Nat) (b : List Int) (l : List O), Bytes b → optsP f b = some l → l.length ≤ b.length ∧ ∀ o ∈ l, U8 o.1 ∧ Bytes o.2 ∧ o.2.length ≤ 400
  | f, [], l, hb, h => by
    have : optsP f [] = some [] := by cases f <;> rfl
    rw [this] at h; cases h
    exact ⟨Nat.le_refl _, fun o ho => by cases ho⟩
  | 0, _ :: _, l, hb, h => by cases h
  | f + 1, [_], l, hb, h => by cases h
  | f + 1, k :: c :: r, l, hb, h => by
    simp only [optsP] at h
    split at h
    · cases h
    · split at h
      · cases h
      · obtain ⟨l', h', rfl⟩ := Option.map_eq_some_iff.1 h
        have hk := hb.head
        have hc := hb.tail.head
        obtain ⟨i1, i2⟩ := optsP_ok f _ l' (hb.tail.tail.drop _) h'
        rw [List.length_drop] at i1
        refine ⟨by simp only [List.length_cons]; omega, fun o ho => ?_⟩
        rcases List.mem_cons.1 ho with rfl | ho
        · refine ⟨hk, hb.tail.tail.take _, ?_⟩
          show (r.take c.toNat).length ≤ 400
          rw [List.length_take]; omega
        · exact i2 o ho
theorem parse_ok {b : List Int} (hb : Bytes b) (hl : b.length ≤ 3000) {s0 s1 s2 s3 s4 : Int} {l : List O} {d : List Int} (h : parseOf b = (0, s0, s1, s2, s3, s4, l, d)) :
    U16 s0 ∧ U16 s1 ∧ U32 s2 ∧ U32 s3 ∧ U8 s4 ∧ okOs l ∧ d.length ≤ 100000 := by
  obtain ⟨e1, e2, e3, e4, e5, _, _, e6, _⟩ := enc_parse hb h
  refine ⟨e1, e2, e3, e4, e5, ?_⟩
  unfold parseOf at h
  rcases go6 hb with g | ⟨x0, x1, x2, x3, x4, x5, rest, g, a0, a1, a2, a3, a4, a5, hr, hrl, hbb, _⟩
  · rw [g] at h; dsimp only [er] at h; injection h with h1 h2; omega
  rw [g] at h
  dsimp only at h
  split at h
  · dsimp only [er] at h; injection h with h1 h2; omega
  split at h
  · dsimp only [er] at h; injection h with h1 h2; omega
  split at h
  · dsimp only [er] at h; injection h with h1 h2; omega
  split at h
  · dsimp only [er] at h; injection h with h1 h2; omega
  · rename_i l' hopt
    split at h
    · dsimp only [er] at h; injection h with h1 h2; omega
    · simp only [Prod.mk.injEq] at h
      obtain ⟨_, _, _, _, _, _, rfl, rfl⟩ := h
      obtain ⟨_, i2⟩ := optsP_ok 4000 _ l' (hr.take _) hopt
      exact ⟨⟨e6, i2⟩, by rw [List.length_drop]; omega⟩
/-- What bytes say. -/
def bytesT (b : List Int) : List UInt8 := if (parseOf b).1 = 0 then segT (parseOf b).2.1 (parseOf b).2.2.1 (parseOf b).2.2.2.1 (parseOf b).2.2.2.2.1 (parseOf b).2.2.2.2.2.1 (parseOf b).2.2.2.2.2.2.1 (parseOf b).2.2.2.2.2.2.2
  else [110, 111, 110, 101, 32] ++ D (textB (parseOf b).1) ++ 32 :: D (textB (b.length : Int))
theorem parse_e (b : List Int) : 0 ≤ (parseOf b).1 ∧ (parseOf b).1 ≤ 72 := by
  unfold parseOf
  split
  · split
    · exact ⟨by decide, by decide⟩
    · split
      · exact ⟨by decide, by decide⟩
      · split
        · exact ⟨by decide, by decide⟩
        · split
          · exact ⟨by decide, by decide⟩
          · split
            · exact ⟨by decide, by decide⟩
            · exact ⟨Int.le_refl _, by show (0 : Int) ≤ 72; decide⟩
  · exact ⟨by decide, by decide⟩
theorem bytes_ev (b : List Int) (hb : Bytes b) (hl : b.length ≤ 3000) : Ev (fun n => f72_trace_Bytes n b) (fun r => D r = bytesT b ∧ r.size ≤ 2005000) := by
  have he := parse_e b
  unfold f72_trace_Bytes bytesT
  refine Ev.bind (parse_is b hb (by omega)) ?_
  rintro _ rfl
  refine Ev.ite (fun c => ?_) (fun c => ?_)
  · simp only [bne_iff_ne, ne_eq] at c
    have h1 := text_sz (parseOf b).1; have h2 := text_sz (b.length : Int)
    refine Ev.bind (text_ev _ (by omega) (by omega)) ?_
    rintro _ rfl
    refine Ev.bind (text_ev _ (by omega) (by omega)) ?_
    rintro _ rfl
    have hsz : (lineB [⟨#[110, 111, 110, 101]⟩, textB (parseOf b).1, textB (b.length : Int)]).size ≤ 2000 := by
      refine line_small _ _ (nlit _ _) ?_
      simp only [List.map_cons, List.map_nil, List.sum_cons, List.sum_nil, sz_lit, List.length_cons, List.length_nil]; omega
    refine Ev.bind (line_ev _ (by simp) (by omega)) ?_
    rintro _ rfl
    refine Ev.some ⟨?_, by omega⟩
    rw [if_neg c, line_D _ _ (nlit _ _)]
    simp only [D_lit, List.flatMap_cons, List.flatMap_nil, tl_sz h1.1, tl_sz h2.1, List.append_assoc, List.cons_append, List.nil_append, List.append_nil]
  · simp only [bne_iff_ne, ne_eq, Decidable.not_not] at c
    rw [if_pos c]
    obtain ⟨s0, s1, s2, s3, s4, l, d, e⟩ : ∃ s0 s1 s2 s3 s4 l d, parseOf b = (0, s0, s1, s2, s3, s4, l, d) := ⟨_, _, _, _, _, _, _, by rw [← c]⟩
    obtain ⟨i1, i2, i3, i4, i5, i6, i7⟩ := parse_ok hb hl e
    rw [e]
    exact Ev.bind (segment_ev s0 s1 s2 s3 s4 l d i1 i2 i3 i4 i5 i6 i7) (fun r hr => Ev.some hr)
theorem refbytes_ev (b : List Int) (hb : Bytes b) (hl : b.length ≤ 3000) : Ev (fun n => f71_broughamref26_Bytes n b) (fun r => D r = bytesT b ∧ r.size ≤ 2005000) := by
  have he := parse_e b
  unfold f71_broughamref26_Bytes bytesT
  refine Ev.bind (refParse_is b hb (by omega)) ?_
  rintro _ rfl
  refine Ev.ite (fun c => ?_) (fun c => ?_)
  · simp only [bne_iff_ne, ne_eq] at c
    have h1 := text_sz (parseOf b).1; have h2 := text_sz (b.length : Int)
    refine Ev.bind (textZ _ (by omega) (by omega)) ?_
    rintro _ rfl
    refine Ev.guard (by simp only [sz_app, sz_lit, List.length_cons, List.length_nil]; omega) (Ev.guard (by simp only [sz_app, sz_lit, List.length_cons, List.length_nil]; omega) (Ev.bind (textZ _ (by omega) (by omega)) ?_))
    rintro _ rfl
    refine Ev.guard (by simp only [sz_app, sz_lit, List.length_cons, List.length_nil]; omega) (Ev.some ⟨?_, by simp only [sz_app, sz_lit, List.length_cons, List.length_nil]; omega⟩)
    rw [if_neg c]
    simp only [D_app, D_lit, List.append_assoc, List.cons_append, List.nil_append, List.append_nil]
  · simp only [bne_iff_ne, ne_eq, Decidable.not_not] at c
    rw [if_pos c]
    obtain ⟨s0, s1, s2, s3, s4, l, d, e⟩ : ∃ s0 s1 s2 s3 s4 l d, parseOf b = (0, s0, s1, s2, s3, s4, l, d) := ⟨_, _, _, _, _, _, _, by rw [← c]⟩
    obtain ⟨i1, i2, i3, i4, i5, i6, i7⟩ := parse_ok hb hl e
    rw [e]
    exact Ev.bind (refsegment_ev s0 s1 s2 s3 s4 l d i1 i2 i3 i4 i5 i6 i7) (fun r hr => Ev.some hr)
/-- Packets, a line each. -/
def pksT : List O → List UInt8
  | [] => []
  | o :: l => ([112, 97, 116, 104, 32] ++ D (textB o.1) ++ 32 :: bytesT o.2 ++ [10]) ++ pksT l
theorem pksT_app (l : List O) (o : O) : pksT (l ++ [o]) = pksT l ++ ([112, 97, 116, 104, 32] ++ D (textB o.1) ++ 32 :: bytesT o.2 ++ [10]) := by
  induction l with
  | nil => simp [pksT]
  | cons p l ih => simp only [List.cons_append, pksT, ih, List.append_assoc]
def okPs (l : List O) : Prop := l.length ≤ 20 ∧ ∀ o ∈ l, (-9223372036854775808 ≤ o.1 ∧ o.1 < 9223372036854775808) ∧ Bytes o.2
theorem packets_loop (l : List O) (ho : okPs l) (h3 : ∀ o ∈ l, o.2.length ≤ 300) : ∀ (k i : Nat) (hi : i + k = l.length) (out : ByteArray) (hout : D out = pksT (l.take i)) (hsz : out.size ≤ 2006000 * i),
    Ev (fun n => f73_trace_Packets_L3 n out l ((l.length : Nat) : Int) (i : Int)) (fun w => D w = pksT l)
  | 0, i, hi, out, hout, hsz => by
    apply Ev.succ
    unfold f73_trace_Packets_L3
    refine Ev.neg (by simp only [decide_eq_true_eq]; omega) (Ev.some ?_)
    rw [hout, List.take_of_length_le (by omega)]
  | k + 1, i, hi, out, hout, hsz => by
    have hil : i < l.length := by omega
    have hl20 := ho.1
    have hm := ho.2 _ (getD_mem hil (0, []))
    have hm3 := h3 _ (getD_mem hil (0, []))
    apply Ev.succ
    unfold f73_trace_Packets_L3
    rw [Int.toNat_natCast, i64_id (e := (i : Int) + 1) (by omega) (by omega)]
    have hsn := take_snoc l hil
    generalize l.getD i (0, []) = o at hm hm3 hsn
    have h1 := text_sz o.1
    refine Ev.pos (by simp only [decide_eq_true_eq]; omega) (Ev.guard (by omega) (Ev.bind (text_ev _ hm.1.1 hm.1.2) ?_))
    rintro _ rfl
    refine Ev.bind (bytes_ev o.2 hm.2 (by omega)) ?_
    rintro r ⟨r1, r2⟩
    have hne : 1 ≤ r.size := by
      rw [sz_D, r1]
      unfold bytesT segT
      split
      · simp only [List.length_append, List.length_cons]; omega
      · simp only [List.length_append, List.length_cons]; omega
    have hlz := line_sz ⟨#[112, 97, 116, 104]⟩ [textB o.1, r] (nlit _ _)
    simp only [List.map_cons, List.map_nil, List.sum_cons, List.sum_nil, sz_lit, List.length_cons, List.length_nil] at hlz
    refine Ev.bind (line_ev _ (by simp) (by omega)) ?_
    rintro _ rfl
    refine Ev.guard (by simp only [sz_lit, List.length_cons, List.length_nil]; omega) (Ev.guard (by simp only [sz_app, sz_lit, List.length_cons, List.length_nil]; omega) ?_)
    refine packets_loop l ho h3 k (i + 1) (by omega) _ ?_ (by simp only [sz_app, sz_lit, List.length_cons, List.length_nil]; omega)
    rw [hsn, pksT_app, D_app, D_app, hout, line_D _ _ (nlit _ _)]
    have hb : tl (D r) = 32 :: bytesT o.2 := by rw [tl_sz hne, r1]
    simp only [D_lit, List.flatMap_cons, List.flatMap_nil, tl_sz h1.1, hb, List.append_assoc, List.cons_append, List.nil_append, List.append_nil]
theorem want_loop (b : List Int) (l : List O) (ho : okPs l) : ∀ (k i : Nat) (hi : i + k = l.length) (out : ByteArray) (hout : D out = pksT (l.take i)) (hsz : out.size ≤ 2006000 * i) (h3 : ∀ o ∈ l.take i, o.2.length ≤ 300),
    Ev (fun n => f14_broughamlaw26_TraceBytes_L5 n b l out (i : Int)) (fun w => w = .inl true ∨ ∃ want, w = .inr (b, l, want) ∧ D want = pksT l ∧ ∀ o ∈ l, o.2.length ≤ 300)
  | 0, i, hi, out, hout, hsz, h3 => by
    apply Ev.succ
    unfold f14_broughamlaw26_TraceBytes_L5
    rw [List.take_of_length_le (by omega)] at hout h3
    exact Ev.neg (by simp only [decide_eq_true_eq]; omega) (Ev.some (.inr ⟨out, rfl, hout, h3⟩))
  | k + 1, i, hi, out, hout, hsz, h3 => by
    have hil : i < l.length := by omega
    have hl20 := ho.1
    have hm := ho.2 _ (getD_mem hil (0, []))
    apply Ev.succ
    unfold f14_broughamlaw26_TraceBytes_L5
    rw [Int.toNat_natCast, i64_id (e := (i : Int) + 1) (by omega) (by omega)]
    have hsn := take_snoc l hil
    generalize l.getD i (0, []) = o at hm hsn
    have h1 := text_sz o.1
    refine Ev.pos (by simp only [decide_eq_true_eq]; omega) (Ev.guard (by omega) (Ev.ite (fun _ => Ev.some (.inl rfl)) (fun c => ?_)))
    simp only [decide_eq_true_eq] at c
    refine Ev.guard (by omega) (Ev.bind (textZ _ hm.1.1 hm.1.2) ?_)
    rintro _ rfl
    refine Ev.guard (by simp only [sz_app, sz_lit, List.length_cons, List.length_nil]; omega) (Ev.guard (by simp only [sz_app, sz_lit, List.length_cons, List.length_nil]; omega) (Ev.guard (by omega) (Ev.bind (refbytes_ev o.2 hm.2 (by omega)) ?_)))
    rintro r ⟨r1, r2⟩
    refine Ev.guard (by simp only [sz_app, sz_lit, List.length_cons, List.length_nil]; omega) (Ev.guard (by simp only [sz_app, sz_lit, List.length_cons, List.length_nil]; omega) (Ev.guard (by simp only [sz_app, sz_lit, List.length_cons, List.length_nil]; omega) ?_))
    refine want_loop b l ho k (i + 1) (by omega) _ ?_ (by simp only [sz_app, sz_lit, List.length_cons, List.length_nil]; omega) ?_
    · rw [hsn, pksT_app]
      simp only [D_app, D_lit, hout, r1, List.append_assoc, List.cons_append, List.nil_append, List.append_nil]
    · intro q hq
      rw [hsn] at hq
      rcases List.mem_append.1 hq with hq | hq
      · exact h3 q hq
      · simp only [List.mem_singleton] at hq; subst hq; omega
theorem TraceBytes (b : List Int) (h0 : K.ok (.slice (.int .u8)) b) (l : List (Int × List Int)) (h1 : K.ok (.slice (.pair (.int .i64) (.slice (.int .u8)))) l) : ∃ n, f14_broughamlaw26_TraceBytes n b l = some true := by
  have hb := ok_bytes h0
  apply Ev.true
  unfold f14_broughamlaw26_TraceBytes
  refine Ev.ite (fun _ => Ev.some rfl) fun c => Ev.ite (fun _ => Ev.some rfl) fun c2 => ?_
  simp only [decide_eq_true_eq] at c c2
  have ho : okPs l := ⟨by omega, fun o q => ⟨ok_i64 (h1.2 o q).1, ok_bytes (h1.2 o q).2⟩⟩
  refine Ev.bind (want_loop b l ho l.length 0 (by omega) ⟨#[]⟩ (by simp [pksT, D]) (by decide) (fun o q => by simp at q)) ?_
  rintro _ (rfl | ⟨want, rfl, hw, h3⟩)
  · exact Ev.some rfl
  dsimp only
  refine Ev.bind (bytes_ev b hb (by omega)) ?_
  rintro r1 ⟨e1, _⟩
  refine Ev.bind (refbytes_ev b hb (by omega)) ?_
  rintro r2 ⟨e2, _⟩
  refine Ev.pos (D_eq (e1.trans e2.symm)) ?_
  refine Ev.bind (P := fun r => D r = pksT l) ?_ ?_
  · unfold f73_trace_Packets
    exact Ev.bind (packets_loop l ho h3 l.length 0 (by omega) ⟨#[]⟩ (by simp [pksT, D]) (by decide)) (fun r hr => Ev.some hr)
  · intro r hr
    exact Ev.pos (D_eq (hr.trans hw.symm)) (Ev.bind alive_ev (fun r hr => Ev.some hr))
end Go.Proofs.YtjoibacjpapncaaF26
