/- NumLines: texts with one blank between, and what stands between blanks: of the functions that text F01 prints. Conditions: none. -/
import Derived.Test.YtakamchmiakicaaDoorPureWords
namespace Go.Proofs.YtakamchmiakicaaDoorF01
open Go Zed Go.Proofs.YtakamchmiakicaaDoorLeaf
set_option linter.unusedVariables false
set_option linter.unusedSimpArgs false

theorem ne_is (x : ByteArray) : (!(x.toList == (⟨#[]⟩ : ByteArray).toList)) = ne x := by
  rw [str_dec]
  unfold ne D
  by_cases h : x.data.toList = []
  · rw [decide_eq_true (by simpa using h), decide_eq_false (by simpa using h)]; rfl
  · rw [decide_eq_false (by simpa using h), decide_eq_true (by simpa using h)]; rfl
theorem fil_map (l : List ByteArray) : (l.filter ne).map D = fil (l.map D) := by
  unfold fil
  rw [List.filter_map]; rfl
theorem line_Dj (l : List ByteArray) : D (lineB l) = Lib.join (fil (l.map D)) [32] := by
  rw [← fil_map]; rfl
theorem pieces_loop (l : List ByteArray) (hl : l.length ≤ 100000) : ∀ (d i : Nat) (hi : i + d = l.length) (out : List ByteArray) (ho : out.length ≤ i),
    Ev (fun n => f15_num_Pieces_L4 n out l ((l.length : Nat) : Int) (i : Int)) (fun w => w = out ++ (l.drop i).filter ne)
  | 0, i, hi, out, ho => by
    apply Ev.succ
    unfold f15_num_Pieces_L4
    refine Ev.neg (by simp only [decide_eq_true_eq]; omega) (Ev.some ?_)
    rw [List.drop_eq_nil_of_le (by omega)]; simp
  | d + 1, i, hi, out, ho => by
    have e1 : l.drop i = l.getD i ByteArray.empty :: l.drop (i + 1) := drop_cons (by omega) _
    apply Ev.succ
    unfold f15_num_Pieces_L4
    rw [Int.toNat_natCast, i64_id (e := (i : Int) + 1) (by omega) (by omega), e1, List.filter_cons, ne_is]
    generalize l.getD i ByteArray.empty = x
    refine Ev.pos (by simp only [decide_eq_true_eq]; omega) (Ev.guard (by omega) (Ev.ite (fun c => Ev.guard (by simp only [List.length_singleton, maxLen]; omega) ?_) (fun c => ?_)))
    · refine (pieces_loop l hl d (i + 1) (by omega) _ (by simp; omega)).mono ?_
      rintro _ rfl
      rw [if_pos c]; simp
    · refine (pieces_loop l hl d (i + 1) (by omega) _ (by omega)).mono ?_
      rintro _ rfl
      rw [if_neg c]
theorem countB_cut (s : ByteArray) (c : UInt8) : Lib.countB s ⟨#[c]⟩ = (D s).count c := by
  show Lib.count s.data.toList [c] = _
  rw [Lib.count_one]; rfl
theorem split_D (s : ByteArray) (c : UInt8) : fil ((splitS s ⟨#[c]⟩).map D) = ws c [] (D s) := by
  unfold splitS
  have e : (Lib.splitB ⟨#[c]⟩ 0 (Lib.countB s ⟨#[c]⟩) s).map D = Lib.splitK [c] 0 (Lib.countB s ⟨#[c]⟩) (D s) := Lib.splitB_data ⟨#[c]⟩ 0 _ s
  rw [e, split_fil c _ (D s) (by rw [countB_cut]; exact Nat.le_refl _)]
theorem split_len (s : ByteArray) (c : UInt8) : (splitS s ⟨#[c]⟩).length ≤ s.size + 1 := by
  have h1 := Lib.splitB_all ⟨#[c]⟩ (Nat.le_refl 1) 0 _ s rfl
  have h2 := Lib.countB_le ⟨#[c]⟩ (Nat.le_refl 1) s.size s (Nat.le_refl _)
  show (Lib.splitB ⟨#[c]⟩ 0 (Lib.countB s ⟨#[c]⟩) s).length ≤ _
  rw [h1]; omega
theorem pieces_ev (s : ByteArray) (hs : s.size ≤ 90000) : Ev (fun n => f15_num_Pieces n s) (fun r => r.map D = pc [] (D s)) := by
  unfold f15_num_Pieces
  refine Ev.bind (P := fun r => r = cutB s ⟨#[35]⟩) ?_ ?_
  · unfold f49_strings_Cut
    exact Ev.pos ⟨rfl, by omega⟩ (Ev.some rfl)
  rintro _ rfl
  have hD : D (cutB s ⟨#[35]⟩).1 = upto (D s) := cut_upto (D s)
  have hsz : (cutB s ⟨#[35]⟩).1.size ≤ 90000 := by
    rw [sz_D, hD]
    have : (upto (D s)).length ≤ (D s).length := (List.takeWhile_sublist _).length_le
    rw [sz_D] at hs; omega
  refine Ev.bind (P := fun r => r = splitS (cutB s ⟨#[35]⟩).1 ⟨#[32]⟩) ?_ ?_
  · unfold f45_strings_Split
    exact Ev.pos ⟨rfl, by omega⟩ (Ev.some rfl)
  rintro _ rfl
  have hlen := split_len (cutB s ⟨#[35]⟩).1 32
  generalize hq : splitS (cutB s ⟨#[35]⟩).1 ⟨#[32]⟩ = q at hlen
  refine Ev.bind (pieces_loop q (by omega) q.length 0 (by omega) [] (by simp)) ?_
  rintro _ rfl
  refine Ev.some ?_
  rw [List.drop_zero, List.nil_append, fil_map, ← hq, split_D, hD, pc_ws]
theorem refpieces_loop (s : ByteArray) (hs : s.size ≤ 90000) : ∀ (d i : Nat) (hi : i + d = s.size) (out : List ByteArray) (now : ByteArray) (ho : out.length ≤ i) (hn : now.size ≤ i),
    Ev (fun n => f19_broughamref01_Pieces_L4 n s out now (i : Int)) (fun w => w.1.map D ++ emit (D w.2) = out.map D ++ pc (D now) ((D s).drop i) ∧ w.1.length ≤ 90000)
  | 0, i, hi, out, now, ho, hn => by
    apply Ev.succ
    unfold f19_broughamref01_Pieces_L4
    refine Ev.neg (by simp only [decide_eq_true_eq]; omega) (Ev.some ⟨?_, by show out.length ≤ _; omega⟩)
    rw [List.drop_eq_nil_of_le (by rw [← sz_D]; omega)]; rfl
  | d + 1, i, hi, out, now, ho, hn => by
    have hil : i < (D s).length := by rw [← sz_D]; omega
    have hb : byteAt s (i : Int) = (((D s)[i]'hil).toNat : Int) := byte_at hil
    have hdrop : (D s).drop i = (D s)[i] :: (D s).drop (i + 1) := List.drop_eq_getElem_cons hil
    have hext : D (s.extract i (i + 1)) = [(D s)[i]] := by
      show (s.extract i (i + 1)).data.toList = _
      rw [Lib.extract_data]
      show ((D s).drop i).take (i + 1 - i) = _
      rw [hdrop, show i + 1 - i = 1 by omega]; rfl
    apply Ev.succ
    unfold f19_broughamref01_Pieces_L4
    rw [i64_id (e := (i : Int) + 1) (by omega) (by omega), hb, show ((i : Int) + 1).toNat = i + 1 by omega, Int.toNat_natCast, ne_is, hdrop, pc]
    have go : ∀ (out' : List ByteArray) (now' : ByteArray), out'.length ≤ i + 1 → now'.size ≤ i + 1 → Ev (fun n => f19_broughamref01_Pieces_L4 n s out' now' ((i : Int) + 1)) (fun w => w.1.map D ++ emit (D w.2) = out'.map D ++ pc (D now') ((D s).drop (i + 1)) ∧ w.1.length ≤ 90000) :=
      fun out' now' h1 h2 => refpieces_loop s hs d (i + 1) (by omega) out' now' h1 h2
    generalize (D s)[i] = x at hb hext
    have inj : ∀ y : UInt8, (x.toNat : Int) = (y.toNat : Int) → x = y := fun y h => UInt8.toNat_inj.1 (by omega)
    refine Ev.pos (by simp only [decide_eq_true_eq]; omega) (Ev.guard (by omega) (Ev.ite (fun c => Ev.guard (by omega) ?_) (fun c => Ev.some ?_)))
    · simp only [bne_iff_ne, ne_eq] at c
      rw [if_neg (fun e => c (by rw [e]; rfl))]
      refine Ev.ite (fun c2 => ?_) (fun c2 => ?_)
      · simp only [bne_iff_ne, ne_eq] at c2
        rw [if_neg (fun e => c2 (by rw [e]; rfl))]
        have hez : (s.extract i (i + 1)).size = 1 := by rw [sz_D, hext]; rfl
        refine Ev.guard (by simp [cutOk]; omega) (Ev.guard (by rw [hez]; omega) ?_)
        refine (go out (now ++ s.extract i (i + 1)) (by omega) (by rw [sz_app, hez]; omega)).mono ?_
        rw [D_app, hext]
        exact fun w hw => hw
      · simp only [bne_iff_ne, ne_eq, Decidable.not_not] at c2
        rw [if_pos (inj 32 c2)]
        refine Ev.ite (fun c3 => Ev.guard (by simp only [List.length_singleton, maxLen]; omega) ?_) (fun c3 => ?_)
        · refine (go (out ++ [now]) ⟨#[]⟩ (by simp; omega) (by show 0 ≤ _; omega)).mono ?_
          have he : emit (D now) = [D now] := by unfold emit; rw [if_neg (by simpa [ne] using c3)]
          rw [he, List.map_append, List.append_assoc]
          exact fun w hw => hw
        · refine (go out ⟨#[]⟩ (by omega) (by show 0 ≤ _; omega)).mono ?_
          have he : emit (D now) = [] := by unfold emit; rw [if_pos (by simpa [ne] using c3)]
          rw [he, List.nil_append]
          exact fun w hw => hw
    · simp only [bne_iff_ne, ne_eq, Decidable.not_not] at c
      rw [if_pos (inj 35 c)]
      exact ⟨rfl, by show out.length ≤ _; omega⟩
theorem refpieces_ev (s : ByteArray) (hs : s.size ≤ 90000) : Ev (fun n => f19_broughamref01_Pieces n s) (fun r => r.map D = pc [] (D s)) := by
  unfold f19_broughamref01_Pieces
  refine Ev.bind (refpieces_loop s hs s.size 0 (by omega) [] ⟨#[]⟩ (by simp) (Nat.zero_le _)) ?_
  rintro w ⟨hw, hwl⟩
  rw [ne_is]
  have hw : w.1.map D ++ emit (D w.2) = pc [] (D s) := hw
  refine Ev.ite (fun c => Ev.guard (by simp only [List.length_singleton, maxLen]; omega) (Ev.some ?_)) (fun c => Ev.some ?_)
  · have he : emit (D w.2) = [D w.2] := by unfold emit; rw [if_neg (by simpa [ne] using c)]
    rw [← hw, he, List.map_append]; rfl
  · have he : emit (D w.2) = [] := by unfold emit; rw [if_pos (by simpa [ne] using c)]
    rw [← hw, he, List.append_nil]
theorem refline_loop (l : List ByteArray) (hl : l.length ≤ 1000) (h3 : ∀ x ∈ l, x.size ≤ 300) : ∀ (d i : Nat) (hi : i + d = l.length) (out : ByteArray) (ho : D out = Lib.join (fil ((l.take i).map D)) [32]),
    Ev (fun n => f17_broughamref01_Line_L3 n l out (i : Int)) (fun w => D w = Lib.join (fil (l.map D)) [32])
  | 0, i, hi, out, ho => by
    apply Ev.succ
    unfold f17_broughamref01_Line_L3
    refine Ev.neg (by simp only [decide_eq_true_eq]; omega) (Ev.some ?_)
    rw [ho, List.take_of_length_le (by omega)]
  | d + 1, i, hi, out, ho => by
    have hil : i < l.length := by omega
    have hx3 := h3 _ (getD_mem hil ByteArray.empty)
    have htake : l.take (i + 1) = l.take i ++ [l.getD i ByteArray.empty] := by
      rw [List.take_add_one]
      simp [List.getElem?_eq_getElem hil, List.getD_eq_getElem?_getD]
    have hsum : ∀ q : List ByteArray, (∀ x ∈ q, x.size ≤ 300) → ((fil (q.map D)).map List.length).sum + (fil (q.map D)).length ≤ 301 * q.length := by
      intro q
      induction q with
      | nil => intro _; exact Nat.le_refl _
      | cons y q ih =>
        intro hq
        have h1 := ih (fun x hx => hq x (List.mem_cons_of_mem _ hx))
        have h2 := hq y List.mem_cons_self
        rw [sz_D] at h2
        rw [List.map_cons, fil_cons]
        have he : ((emit (D y)).map List.length).sum + (emit (D y)).length ≤ 301 := by unfold emit; split <;> simp; omega
        rw [List.map_append, List.sum_append, List.length_append, List.length_cons]; omega
    have hosz : out.size ≤ 301000 := by
      rw [sz_D, ho]
      have h1 := join_len (fil ((l.take i).map D))
      have h2 := hsum (l.take i) (fun x hx => h3 x (List.mem_of_mem_take hx))
      rw [List.length_take] at h2
      omega
    apply Ev.succ
    unfold f17_broughamref01_Line_L3
    rw [i64_id (e := (i : Int) + 1) (by omega) (by omega), Int.toNat_natCast, ne_is, ne_is]
    generalize l.getD i ByteArray.empty = x at hx3 htake
    have go : ∀ out' : ByteArray, D out' = Lib.join (fil ((l.take (i + 1)).map D)) [32] → Ev (fun n => f17_broughamref01_Line_L3 n l out' ((i : Int) + 1)) (fun w => D w = Lib.join (fil (l.map D)) [32]) :=
      fun out' h => refline_loop l hl h3 d (i + 1) (by omega) out' h
    have hf : fil ((l.take (i + 1)).map D) = fil ((l.take i).map D) ++ emit (D x) := by
      rw [htake, List.map_append]
      unfold fil
      rw [List.filter_append]
      congr 1
      exact fil_one (D x)
    have hnn : ∀ w ∈ fil ((l.take i).map D), w ≠ [] := by
      intro w hw
      unfold fil at hw
      simpa using (List.mem_filter.1 hw).2
    have hs1 : (⟨#[32]⟩ : ByteArray).size = 1 := rfl
    refine Ev.pos (by simp only [decide_eq_true_eq]; omega) (Ev.guard (by omega) (Ev.ite (fun c => ?_) (fun c => ?_)))
    · have he : emit (D x) = [D x] := by unfold emit; rw [if_neg (by simpa [ne] using c)]
      rw [he] at hf
      refine Ev.ite (fun c2 => Ev.guard (by rw [hs1]; omega) (Ev.guard (by omega) (Ev.guard (by rw [sz_app, hs1]; omega) (go _ ?_)))) (fun c2 => Ev.guard (by omega) (Ev.guard (by omega) (go _ ?_)))
      · have hne : D out ≠ [] := by simpa [ne] using c2
        rw [ho] at hne
        rw [hf, join_snoc, if_neg (fun e => hne ((join_nil_iff _ hnn).2 e)), D_app, D_app, ho]; rfl
      · have hne : D out = [] := by simpa [ne] using c2
        have hr : fil ((l.take i).map D) = [] := (join_nil_iff _ hnn).1 (by rw [← ho]; exact hne)
        rw [hf, hr, D_app, hne]
        simp [Lib.join_one]
    · have he : emit (D x) = [] := by unfold emit; rw [if_pos (by simpa [ne] using c)]
      have hx : D x = [] := by simpa [ne] using c
      rw [he, List.append_nil] at hf
      refine Ev.guard (by omega) (Ev.guard (by omega) (go _ ?_))
      rw [hf, D_app, hx, List.append_nil, ho]
theorem same_loop (a b : List ByteArray) (h : a.map D = b.map D) (hl : a.length ≤ 100000) : ∀ (d i : Nat) (hi : i + d = a.length), Ev (fun n => f18_broughamref01_Same_L4 n a b (i : Int)) (fun w => w = .inr ())
  | 0, i, hi => by
    apply Ev.succ
    unfold f18_broughamref01_Same_L4
    exact Ev.neg (by simp only [decide_eq_true_eq]; omega) (Ev.some rfl)
  | d + 1, i, hi => by
    have hlen : a.length = b.length := by have := congrArg List.length h; simpa using this
    have ha : i < a.length := by omega
    have hb : i < b.length := by omega
    have e : D (a.getD i ByteArray.empty) = D (b.getD i ByteArray.empty) := by
      have := congrArg (fun l => l[i]?) h
      simp only [List.getElem?_map, List.getElem?_eq_getElem ha, List.getElem?_eq_getElem hb, Option.map_some, Option.some.injEq] at this
      simpa [List.getD_eq_getElem?_getD, List.getElem?_eq_getElem ha, List.getElem?_eq_getElem hb] using this
    apply Ev.succ
    unfold f18_broughamref01_Same_L4
    rw [Int.toNat_natCast, i64_id (e := (i : Int) + 1) (by omega) (by omega), D_eq e]
    exact Ev.pos (by simp only [decide_eq_true_eq]; omega) (Ev.guard (by omega) (Ev.guard (by omega) (Ev.neg (by simp) (same_loop a b h hl d (i + 1) (by omega)))))
theorem same_ev (a b : List ByteArray) (h : a.map D = b.map D) (hl : a.length ≤ 100000) : Ev (fun n => f18_broughamref01_Same n a b) (fun r => r = true) := by
  have hlen : a.length = b.length := by have := congrArg List.length h; simpa using this
  unfold f18_broughamref01_Same
  refine Ev.neg (by rw [hlen]; simp) (Ev.bind (same_loop a b h hl a.length 0 (by omega)) ?_)
  rintro _ rfl
  exact Ev.some rfl
theorem guards_loop (l : List ByteArray) (s : ByteArray) (hl : l.length ≤ 60) : ∀ (d i : Nat) (hi : i + d = l.length) (h : ∀ x ∈ l.take i, x.size ≤ 300), Ev (fun n => f4_broughamlaw01_NumLines_L4 n l s (i : Int)) (fun w => w = .inl true ∨ (w = .inr (l, s) ∧ ∀ x ∈ l, x.size ≤ 300))
  | 0, i, hi, h => by
    apply Ev.succ
    unfold f4_broughamlaw01_NumLines_L4
    rw [List.take_of_length_le (by omega)] at h
    exact Ev.neg (by simp only [decide_eq_true_eq]; omega) (Ev.some (.inr ⟨rfl, h⟩))
  | d + 1, i, hi, h => by
    have hil : i < l.length := by omega
    have htake : l.take (i + 1) = l.take i ++ [l.getD i ByteArray.empty] := by
      rw [List.take_add_one]
      simp [List.getElem?_eq_getElem hil, List.getD_eq_getElem?_getD]
    apply Ev.succ
    unfold f4_broughamlaw01_NumLines_L4
    rw [Int.toNat_natCast, i64_id (e := (i : Int) + 1) (by omega) (by omega)]
    refine Ev.pos (by simp only [decide_eq_true_eq]; omega) (Ev.guard (by omega) (Ev.ite (fun _ => Ev.some (.inl rfl)) (fun c => ?_)))
    simp only [decide_eq_true_eq] at c
    refine guards_loop l s hl d (i + 1) (by omega) ?_
    rw [htake]
    intro x hx
    rcases List.mem_append.1 hx with hx | hx
    · exact h x hx
    · simp only [List.mem_singleton] at hx; subst hx; omega
theorem NumLines (l : List ByteArray) (h0 : K.ok (.slice .str) l) (s : ByteArray) (h1 : K.ok .str s) : ∃ n, f4_broughamlaw01_NumLines n l s = some true := by
  apply Ev.true
  unfold f4_broughamlaw01_NumLines
  refine Ev.ite (fun _ => Ev.some rfl) fun c => Ev.ite (fun _ => Ev.some rfl) fun c2 => ?_
  simp only [decide_eq_true_eq] at c c2
  refine Ev.bind (guards_loop l s (by omega) l.length 0 (by omega) (by simp)) ?_
  rintro _ (rfl | ⟨rfl, h3⟩)
  · exact Ev.some rfl
  dsimp only
  refine Ev.bind (pieces_ev s (by omega)) ?_
  intro p hp
  have hpl : p.length ≤ 301 := by
    have := congrArg List.length hp
    rw [List.length_map] at this
    have h2 := (pc_len (D s) []).2
    rw [← sz_D] at h2; omega
  have hlsz : (lineB l).size ≤ 100000 := by
    rw [sz_D, line_Dj]
    have h1 := join_len (fil (l.map D))
    have h2 : ((fil (l.map D)).map List.length).sum + (fil (l.map D)).length ≤ 301 * l.length := by
      clear h0 c hp h1
      induction l with
      | nil => exact Nat.le_refl _
      | cons y q ih =>
        have h1 := ih (fun x hx => h3 x (List.mem_cons_of_mem _ hx))
        have h2 := h3 y List.mem_cons_self
        rw [sz_D] at h2
        rw [List.map_cons, fil_cons]
        have he : ((emit (D y)).map List.length).sum + (emit (D y)).length ≤ 301 := by unfold emit; split <;> simp; omega
        rw [List.map_append, List.sum_append, List.length_append, List.length_cons]; omega
    omega
  refine Ev.bind (line_ev l (by omega) (by omega)) ?_
  rintro _ rfl
  refine Ev.bind (P := fun r => D r = Lib.join (fil (l.map D)) [32]) ?_ ?_
  · unfold f17_broughamref01_Line
    exact Ev.bind (refline_loop l (by omega) h3 l.length 0 (by omega) ⟨#[]⟩ rfl) (fun r hr => Ev.some hr)
  intro r1 hr1
  refine Ev.pos (D_eq ((line_Dj l).trans hr1.symm)) ?_
  refine Ev.bind (refpieces_ev s (by omega)) ?_
  intro r2 hr2
  refine Ev.bind (same_ev p r2 (hp.trans hr2.symm) (by omega)) ?_
  rintro _ rfl
  refine Ev.pos rfl ?_
  have hw : ∀ w ∈ p.map D, Word w := by rw [hp]; exact pc_words (D s) [] ⟨by simp, by simp⟩
  have hfil : fil (p.map D) = p.map D := by
    unfold fil
    rw [List.filter_eq_self]
    intro w q
    simpa using (hw w q).1
  have hpsz : (lineB p).size ≤ 90000 := by
    rw [sz_D, line_Dj, hfil]
    have h1 := join_len (p.map D)
    have h2 := (pc_len (D s) []).1
    rw [← hp, ← sz_D] at h2
    rw [List.length_map] at h1
    simp only [List.length_nil] at h2
    omega
  refine Ev.bind (line_ev p (by omega) (by omega)) ?_
  rintro _ rfl
  refine Ev.bind (pieces_ev (lineB p) hpsz) ?_
  intro r3 hr3
  have e3 : r3.map D = p.map D := by rw [hr3, line_Dj, hfil, pc_join _ hw]
  have hl3 : r3.length = p.length := by have := congrArg List.length e3; simpa using this
  refine Ev.bind (same_ev r3 p e3 (by omega)) ?_
  rintro _ rfl
  exact Ev.pos rfl (Ev.bind alive_ev (fun r hr => Ev.some hr))
end Go.Proofs.YtakamchmiakicaaDoorF01
