/- ScriptBack: what is written is read as it was; what is read is written, and read as the same: of the functions that text F25b prints. Conditions: none. -/
import Derived.Test.YtakamchmiakicaaDoorPureLib25b
namespace Go.Proofs.YtakamchmiakicaaDoorF25b
open Go Zed Go.Proofs.YtakamchmiakicaaDoorLeaf
set_option linter.unusedVariables false
set_option linter.unusedSimpArgs false
set_option maxRecDepth 100000

/-! What a step's line is read as. -/
def upd (s : Stp) (a : Stp) (c : UInt8) : Stp := if c = 98 then setB (byt s) a else setC c (getC c s) a
theorem fldC_is (s a : Stp) (c : UInt8) (hg : Bytes (byt s)) (hc : c = 98 ∨ (0 ≤ getC c s ∧ getC c s ≤ 2147483647)) : fldC c (unw (fldT s c)) a = some (upd s a c) := by
  unfold fldC upd fldT
  by_cases h : c = 98
  · rw [if_pos h, if_pos h, if_pos h]
    have e : (unw (D (hexB (byt s)))).data.toList = (hexB (byt s)).data.toList := rfl
    rw [e, unhexR_hexB _ hg, if_pos rfl]
  · rw [if_neg h, if_neg h, if_neg h]
    have hv := hc.resolve_left h
    have e : (unw (textL (getC c s).toNat)).data.toList = textL (getC c s).toNat := rfl
    rw [e, parseR_text (by omega), if_pos rfl, show (((getC c s).toNat : Nat) : Int) = getC c s by omega]
theorem fldL_is (s : Stp) (hg : Bytes (byt s)) : ∀ (cs : List UInt8) (a : Stp) (hc : ∀ c ∈ cs, c = 98 ∨ (0 ≤ getC c s ∧ getC c s ≤ 2147483647)), fldL cs ((cs.map (fldT s)).map unw) a = some (cs.foldl (upd s) a)
  | [], a, _ => rfl
  | c :: cs, a, hc => by
    show (fldC c (unw (fldT s c)) a).bind (fldL cs ((cs.map (fldT s)).map unw)) = _
    rw [fldC_is s a c hg (hc c List.mem_cons_self)]
    exact fldL_is s hg cs _ (fun x hx => hc x (List.mem_cons_of_mem _ hx))
theorem upd_all {s : Stp} (h : rightS s = true) : (D (pt s.1.toNat)).foldl (upd s) (s.1, 0, 0, 0, 0, 0, []) = s := by
  have hk := (right_parts h).1
  have h1 := (right_get h (c := 104) (.inl rfl)).2.2
  have h2 := (right_get h (c := 110) (.inr (.inl rfl))).2.2
  have h3 := (right_get h (c := 112) (.inr (.inr (.inl rfl)))).2.2
  have h4 := (right_get h (c := 119) (.inr (.inr (.inr (.inl rfl))))).2.2
  have h5 := (right_get h (c := 107) (.inr (.inr (.inr (.inr rfl))))).2.2
  have h6 := (right_parts h).2.2
  clear h
  obtain ⟨a, x1, x2, x3, x4, x5, b⟩ := s
  have g1 : x1 = 0 ∨ (104 : UInt8) ∈ D (pt a.toNat) := h1
  have g2 : x2 = 0 ∨ (110 : UInt8) ∈ D (pt a.toNat) := h2
  have g3 : x3 = 0 ∨ (112 : UInt8) ∈ D (pt a.toNat) := h3
  have g4 : x4 = 0 ∨ (119 : UInt8) ∈ D (pt a.toNat) := h4
  have g5 : x5 = 0 ∨ (107 : UInt8) ∈ D (pt a.toNat) := h5
  have g6 : b = [] ∨ (98 : UInt8) ∈ D (pt a.toNat) := h6
  have gk : 1 ≤ a ∧ a ≤ 16 := hk
  clear h1 h2 h3 h4 h5 h6 hk
  have hcase : a = 1 ∨ a = 2 ∨ a = 3 ∨ a = 4 ∨ a = 5 ∨ a = 6 ∨ a = 7 ∨ a = 8 ∨ a = 9 ∨ a = 10 ∨ a = 11 ∨ a = 12 ∨ a = 13 ∨ a = 14 ∨ a = 15 ∨ a = 16 := by omega
  rcases hcase with rfl | rfl | rfl | rfl | rfl | rfl | rfl | rfl | rfl | rfl | rfl | rfl | rfl | rfl | rfl | rfl
  · have q : D (pt (1 : Int).toNat) = [104, 110] := rfl
    rw [q] at g1 g2 g3 g4 g5 g6
    obtain rfl := g3.resolve_right (by decide)
    obtain rfl := g4.resolve_right (by decide)
    obtain rfl := g5.resolve_right (by decide)
    obtain rfl := g6.resolve_right (by decide)
    rfl
  · have q : D (pt (2 : Int).toNat) = [104, 110, 112, 119] := rfl
    rw [q] at g1 g2 g3 g4 g5 g6
    obtain rfl := g5.resolve_right (by decide)
    obtain rfl := g6.resolve_right (by decide)
    rfl
  · have q : D (pt (3 : Int).toNat) = [104, 110] := rfl
    rw [q] at g1 g2 g3 g4 g5 g6
    obtain rfl := g3.resolve_right (by decide)
    obtain rfl := g4.resolve_right (by decide)
    obtain rfl := g5.resolve_right (by decide)
    obtain rfl := g6.resolve_right (by decide)
    rfl
  · have q : D (pt (4 : Int).toNat) = [104, 110, 98] := rfl
    rw [q] at g1 g2 g3 g4 g5 g6
    obtain rfl := g3.resolve_right (by decide)
    obtain rfl := g4.resolve_right (by decide)
    obtain rfl := g5.resolve_right (by decide)
    rfl
  · have q : D (pt (5 : Int).toNat) = [104, 110, 107] := rfl
    rw [q] at g1 g2 g3 g4 g5 g6
    obtain rfl := g3.resolve_right (by decide)
    obtain rfl := g4.resolve_right (by decide)
    obtain rfl := g6.resolve_right (by decide)
    rfl
  · have q : D (pt (6 : Int).toNat) = [104, 110] := rfl
    rw [q] at g1 g2 g3 g4 g5 g6
    obtain rfl := g3.resolve_right (by decide)
    obtain rfl := g4.resolve_right (by decide)
    obtain rfl := g5.resolve_right (by decide)
    obtain rfl := g6.resolve_right (by decide)
    rfl
  · have q : D (pt (7 : Int).toNat) = [104, 110] := rfl
    rw [q] at g1 g2 g3 g4 g5 g6
    obtain rfl := g3.resolve_right (by decide)
    obtain rfl := g4.resolve_right (by decide)
    obtain rfl := g5.resolve_right (by decide)
    obtain rfl := g6.resolve_right (by decide)
    rfl
  · have q : D (pt (8 : Int).toNat) = [104, 110] := rfl
    rw [q] at g1 g2 g3 g4 g5 g6
    obtain rfl := g3.resolve_right (by decide)
    obtain rfl := g4.resolve_right (by decide)
    obtain rfl := g5.resolve_right (by decide)
    obtain rfl := g6.resolve_right (by decide)
    rfl
  · have q : D (pt (9 : Int).toNat) = [104, 110, 119] := rfl
    rw [q] at g1 g2 g3 g4 g5 g6
    obtain rfl := g3.resolve_right (by decide)
    obtain rfl := g5.resolve_right (by decide)
    obtain rfl := g6.resolve_right (by decide)
    rfl
  · have q : D (pt (10 : Int).toNat) = [107] := rfl
    rw [q] at g1 g2 g3 g4 g5 g6
    obtain rfl := g1.resolve_right (by decide)
    obtain rfl := g2.resolve_right (by decide)
    obtain rfl := g3.resolve_right (by decide)
    obtain rfl := g4.resolve_right (by decide)
    obtain rfl := g6.resolve_right (by decide)
    rfl
  · have q : D (pt (11 : Int).toNat) = [107] := rfl
    rw [q] at g1 g2 g3 g4 g5 g6
    obtain rfl := g1.resolve_right (by decide)
    obtain rfl := g2.resolve_right (by decide)
    obtain rfl := g3.resolve_right (by decide)
    obtain rfl := g4.resolve_right (by decide)
    obtain rfl := g6.resolve_right (by decide)
    rfl
  · have q : D (pt (12 : Int).toNat) = [107] := rfl
    rw [q] at g1 g2 g3 g4 g5 g6
    obtain rfl := g1.resolve_right (by decide)
    obtain rfl := g2.resolve_right (by decide)
    obtain rfl := g3.resolve_right (by decide)
    obtain rfl := g4.resolve_right (by decide)
    obtain rfl := g6.resolve_right (by decide)
    rfl
  · have q : D (pt (13 : Int).toNat) = [107] := rfl
    rw [q] at g1 g2 g3 g4 g5 g6
    obtain rfl := g1.resolve_right (by decide)
    obtain rfl := g2.resolve_right (by decide)
    obtain rfl := g3.resolve_right (by decide)
    obtain rfl := g4.resolve_right (by decide)
    obtain rfl := g6.resolve_right (by decide)
    rfl
  · have q : D (pt (14 : Int).toNat) = [119, 107] := rfl
    rw [q] at g1 g2 g3 g4 g5 g6
    obtain rfl := g1.resolve_right (by decide)
    obtain rfl := g2.resolve_right (by decide)
    obtain rfl := g3.resolve_right (by decide)
    obtain rfl := g6.resolve_right (by decide)
    rfl
  · have q : D (pt (15 : Int).toNat) = [119, 107] := rfl
    rw [q] at g1 g2 g3 g4 g5 g6
    obtain rfl := g1.resolve_right (by decide)
    obtain rfl := g2.resolve_right (by decide)
    obtain rfl := g3.resolve_right (by decide)
    obtain rfl := g6.resolve_right (by decide)
    rfl
  · have q : D (pt (16 : Int).toNat) = [104, 119, 98] := rfl
    rw [q] at g1 g2 g3 g4 g5 g6
    obtain rfl := g2.resolve_right (by decide)
    obtain rfl := g3.resolve_right (by decide)
    obtain rfl := g5.resolve_right (by decide)
    rfl
theorem words_fin : ∀ j k : Fin 17, D (wd j.val) = D (wd k.val) → j = k := by decide
theorem words_ne {j k : Nat} (hj : j < 17) (hk : k < 17) (h : D (wd j) = D (wd k)) : j = k := congrArg Fin.val (words_fin ⟨j, hj⟩ ⟨k, hk⟩ h)
def wordsS (s : Stp) : List (List UInt8) := D (wd s.1.toNat) :: (D (pt s.1.toNat)).map (fldT s)
theorem stepAt_is {s : Stp} (h : rightS s = true) (hg : Bytes (byt s)) : ∀ (d j : Nat) (hj : j + d = 17) (hjk : j ≤ s.1.toNat), stepAt ((wordsS s).map unw) d j = (true, s)
  | 0, j, hj, hjk => by
    have hk := (right_parts h).1
    omega
  | d + 1, j, hj, hjk => by
    have hk := (right_parts h).1
    have hk1 : s.1.toNat < 17 := by omega
    have e0 : ((wordsS s).map unw).getD 0 ByteArray.empty = unw (D (wd s.1.toNat)) := rfl
    have hD : D (unw (D (wd s.1.toNat))) = D (wd s.1.toNat) := rfl
    rw [stepAt, e0, hD]
    by_cases hjk' : j = s.1.toNat
    · subst hjk'
      have hlen : ((wordsS s).map unw).length = (pt s.1.toNat).size + 1 := by
        unfold wordsS
        rw [List.length_map, List.length_cons, List.length_map, sz_D]
      rw [if_pos ⟨rfl, hlen⟩]
      have ed : ((wordsS s).map unw).drop 1 = ((D (pt s.1.toNat)).map (fldT s)).map unw := rfl
      rw [ed, show ((s.1.toNat : Nat) : Int) = s.1 by omega, fldL_is s hg _ _ (fun c hc => ?_), upd_all h]
      · rfl
      · rcases alf_pt hk1 c hc with e | e | e | e | e | e
        · exact .inr ⟨(right_get h (.inl e)).1, (right_get h (.inl e)).2.1⟩
        · exact .inr ⟨(right_get h (.inr (.inl e))).1, (right_get h (.inr (.inl e))).2.1⟩
        · exact .inr ⟨(right_get h (.inr (.inr (.inl e)))).1, (right_get h (.inr (.inr (.inl e)))).2.1⟩
        · exact .inr ⟨(right_get h (.inr (.inr (.inr (.inl e))))).1, (right_get h (.inr (.inr (.inr (.inl e))))).2.1⟩
        · exact .inr ⟨(right_get h (.inr (.inr (.inr (.inr e))))).1, (right_get h (.inr (.inr (.inr (.inr e))))).2.1⟩
        · exact .inl e
    · rw [if_neg (fun q => hjk' (words_ne (by omega) hk1 q.1))]
      exact stepAt_is h hg d (j + 1) (by omega) (by omega)
/-! The signs of a line. -/
def Hi (w : List UInt8) : Prop := ∀ b ∈ w, 45 ≤ b.toNat
theorem hexD_hi : ∀ n : Fin 16, 45 ≤ (hexD n.val).toNat := by decide
theorem hexL_hi : ∀ l : List UInt8, Hi (hexL l)
  | [] => fun b hb => by cases hb
  | x :: l => by
    intro b hb
    have e : hexL (x :: l) = hexD (x.toNat / 16) :: hexD (x.toNat % 16) :: hexL l := rfl
    rw [e] at hb
    have := x.toNat_lt
    rcases List.mem_cons.1 hb with rfl | hb
    · exact hexD_hi ⟨x.toNat / 16, by omega⟩
    · rcases List.mem_cons.1 hb with rfl | hb
      · exact hexD_hi ⟨x.toNat % 16, by omega⟩
      · exact hexL_hi l b hb
theorem wd_hi : ∀ k : Fin 17, ∀ b ∈ D (wd k.val), 45 ≤ b.toNat := by decide
theorem fld_hi (s : Stp) (c : UInt8) (h : getC c s ≤ 2147483647 ∨ c = 98) : Hi (fldT s c) := by
  unfold fldT
  split
  · unfold hexB
    split
    · intro b hb
      have hb : b ∈ ([45] : List UInt8) := hb
      simp only [List.mem_singleton] at hb; subst hb; decide
    · exact hexL_hi _
  · rename_i hc
    have h := h.resolve_right hc
    intro b hb
    have := (textL_canon (getC c s).toNat (by omega)).1.1 b hb
    omega
theorem words_hi {s : Stp} (h : rightS s = true) : ∀ w ∈ wordsS s, Hi w ∧ w ≠ [] := by
  have hk := (right_parts h).1
  have hk1 : s.1.toNat < 17 := by omega
  intro w hw
  rcases List.mem_cons.1 hw with rfl | hw
  · exact ⟨wd_hi ⟨s.1.toNat, hk1⟩, wd_ne (by omega) hk1⟩
  · obtain ⟨c, hc, rfl⟩ := List.mem_map.1 hw
    refine ⟨fld_hi s c ?_, right_fld h hc⟩
    rcases alf_pt hk1 c hc with e | e | e | e | e | e
    · exact .inl (right_get h (.inl e)).2.1
    · exact .inl (right_get h (.inr (.inl e))).2.1
    · exact .inl (right_get h (.inr (.inr (.inl e)))).2.1
    · exact .inl (right_get h (.inr (.inr (.inr (.inl e))))).2.1
    · exact .inl (right_get h (.inr (.inr (.inr (.inr e))))).2.1
    · exact .inr e
theorem hi_not {w : List UInt8} (h : Hi w) {c : UInt8} (hc : c.toNat < 45) : c ∉ w := fun q => by have := h c q; omega
theorem words_word {s : Stp} (h : rightS s = true) : ∀ w ∈ wordsS s, Word w := fun w hw =>
  ⟨(words_hi h w hw).2, hi_not (words_hi h w hw).1 (by decide), hi_not (words_hi h w hw).1 (by decide)⟩
theorem tail_mem {c : UInt8} : ∀ {r : List (List UInt8)}, c ∈ Lib.joinTail [32] r → c = 32 ∨ ∃ w ∈ r, c ∈ w
  | [], h => by simp [Lib.joinTail] at h
  | x :: r, h => by
    have e : Lib.joinTail [32] (x :: r) = 32 :: (x ++ Lib.joinTail [32] r) := by simp [Lib.joinTail]
    rw [e] at h
    rcases List.mem_cons.1 h with h | h
    · exact .inl h
    · rcases List.mem_append.1 h with h | h
      · exact .inr ⟨x, List.mem_cons_self, h⟩
      · rcases tail_mem h with h | ⟨w, hw, h⟩
        · exact .inl h
        · exact .inr ⟨w, List.mem_cons_of_mem _ hw, h⟩
theorem line_no10 {s : Stp} (h : rightS s = true) : (10 : UInt8) ∉ lineS s := by
  intro q
  have q : (10 : UInt8) ∈ Lib.join (D (wd s.1.toNat) :: (D (pt s.1.toNat)).map (fldT s)) [32] := q
  rw [Lib.join_cons] at q
  have hno : ∀ w ∈ wordsS s, (10 : UInt8) ∉ w := fun w hw => hi_not (words_hi h w hw).1 (by decide)
  rcases List.mem_append.1 q with q | q
  · exact hno _ List.mem_cons_self q
  · rcases tail_mem q with q | ⟨w, hw, q⟩
    · cases q
    · exact hno w (List.mem_cons_of_mem _ hw) q
theorem line_pieces {s : Stp} (h : rightS s = true) : pieceB (unw (lineS s)) = (wordsS s).map unw := by
  unfold pieceB
  have e : D (unw (lineS s)) = Lib.join (wordsS s) [32] := rfl
  rw [e, pc_join _ (words_word h)]
/-! Texts. -/
def bodyS (l : List Stp) : List UInt8 := l.flatMap fun s => lineS s ++ [10]
theorem body_cons (s : Stp) (l : List Stp) : bodyS (s :: l) = lineS s ++ 10 :: bodyS l := by
  show (lineS s ++ [10]) ++ bodyS l = _
  rw [List.append_assoc]; rfl
theorem textS_cases : ∀ (l : List Stp) (acc : List UInt8) (ha : acc.length ≤ 65536), textS l acc = (⟨#[]⟩, 230) ∨ (textS l acc = (unw (acc ++ bodyS l), 0) ∧ (∀ s ∈ l, rightS s = true) ∧ (acc ++ bodyS l).length ≤ 65536)
  | [], acc, ha => .inr ⟨by show (unw acc, (0 : Int)) = (unw (acc ++ []), 0); rw [List.append_nil], fun s hs => (by cases hs), by show (acc ++ []).length ≤ _; rw [List.append_nil]; exact ha⟩
  | s :: l, acc, ha => by
    rw [textS]
    split
    · rename_i h
      split
      · exact .inl rfl
      · rename_i hl
        rcases textS_cases l (acc ++ lineS s ++ [10]) (by omega) with e | ⟨e, e2, e3⟩
        · exact .inl e
        · have eb : acc ++ lineS s ++ [10] ++ bodyS l = acc ++ bodyS (s :: l) := by
            rw [body_cons]; simp
          rw [eb] at e e3
          refine .inr ⟨e, fun x hx => ?_, e3⟩
          rcases List.mem_cons.1 hx with rfl | hx
          · exact h
          · exact e2 x hx
    · exact .inl rfl
theorem textT_cases (l : List Stp) : textT l = (⟨#[]⟩, 230) ∨ (textT l = (unw (bodyS l), 0) ∧ (∀ s ∈ l, rightS s = true) ∧ (bodyS l).length ≤ 65536 ∧ l.length ≤ 512) := by
  unfold textT
  split
  · exact .inl rfl
  · rename_i h
    rcases textS_cases l [] (by simp) with e | ⟨e, e2, e3⟩
    · exact .inl e
    · exact .inr ⟨e, e2, e3, by omega⟩
theorem sp_body : ∀ (l : List Stp) (h : ∀ s ∈ l, rightS s = true), sp 10 [] (bodyS l) = l.map lineS ++ [[]]
  | [], _ => rfl
  | s :: l, h => by
    rw [body_cons, sp_at 10 (lineS s) (bodyS l) [] (line_no10 (h s List.mem_cons_self)), sp_body l (fun x hx => h x (List.mem_cons_of_mem _ hx))]; rfl
theorem parseL_body : ∀ (l : List Stp) (h : ∀ s ∈ l, rightS s = true ∧ Bytes (byt s)) (i : Nat) (out : List Stp) (ho : out.length + l.length ≤ 512), parseL ((l.map lineS ++ [[]]).map unw) i out = (out ++ l, 0, 0)
  | [], h, i, out, ho => by
    show parseL [unw []] i out = _
    rw [parseL, if_pos (show pieceB (unw []) = [] from rfl), List.append_nil]; rfl
  | s :: l, h, i, out, ho => by
    obtain ⟨h1, h2⟩ := h s List.mem_cons_self
    have hk := (right_parts h1).1
    rw [List.length_cons] at ho
    show parseL (unw (lineS s) :: (l.map lineS ++ [[]]).map unw) i out = _
    have hs : stepB ((wordsS s).map unw) = (true, s) := stepAt_is h1 h2 16 1 rfl (by omega)
    rw [parseL, line_pieces h1, hs, if_neg (by unfold wordsS; simp), if_neg (by rintro (q | q); cases q; omega)]
    rw [parseL_body l (fun x hx => h x (List.mem_cons_of_mem _ hx)) (i + 1) (out ++ [s]) (by simp; omega), List.append_assoc]; rfl
theorem parse_back (l : List Stp) (h : ∀ s ∈ l, rightS s = true ∧ Bytes (byt s)) (hb : (bodyS l).length ≤ 65536) (hl : l.length ≤ 512) : parseT (unw (bodyS l)) = (l, 0, 0) := by
  have hsz : (unw (bodyS l)).size = (bodyS l).length := by rw [sz_D]; rfl
  unfold parseT
  rw [if_neg (by omega)]
  have e : linesB (unw (bodyS l)) = (l.map lineS ++ [[]]).map unw := by
    unfold linesB
    have : D (unw (bodyS l)) = bodyS l := rfl
    rw [this, sp_body l (fun s hs => (h s hs).1)]
  rw [e, parseL_body l h 0 [] (by simpa using hl)]; rfl
/-! What is read is good. -/
theorem unhexR_good (l : List UInt8) : Bytes (unhexR l).1 ∧ (unhexR l).1.length ≤ l.length := by
  unfold unhexR
  split
  · exact ⟨Bytes.nil, Nat.zero_le _⟩
  · cases hu : unhexF l with
    | none => exact ⟨Bytes.nil, Nat.zero_le _⟩
    | some b =>
      dsimp only
      split
      · exact ⟨Bytes.nil, Nat.zero_le _⟩
      · obtain ⟨i1, i2⟩ := hex_unhex _ l (Nat.le_refl _) b hu
        have := unhex_len _ l (Nat.le_refl _) b hu
        exact ⟨i1, by show b.length ≤ _; omega⟩
theorem setC_byt (c : UInt8) (v : Int) (s : Stp) : byt (setC c v s) = byt s := by
  unfold setC
  split
  · rfl
  · split
    · rfl
    · split
      · rfl
      · split
        · rfl
        · rfl
theorem fldC_good {c : UInt8} {x : ByteArray} {s t : Stp} (h : fldC c x s = some t) (hg : Good s) (hx : x.size ≤ 90000) : Good t := by
  unfold fldC at h
  split at h
  · split at h
    · cases h
      have := unhexR_good x.data.toList
      have hs := size_len x
      exact ⟨this.1, by show (unhexR x.data.toList).1.length ≤ _; omega⟩
    · cases h
  · split at h
    · cases h
      unfold Good
      rw [setC_byt]; exact hg
    · cases h
theorem fldL_good : ∀ (cs : List UInt8) (xs : List ByteArray) (s t : Stp) (h : fldL cs xs s = some t) (hg : Good s) (hx : ∀ x ∈ xs, x.size ≤ 90000), Good t
  | [], xs, s, t, h, hg, hx => by
    have h : some s = some t := h
    cases h; exact hg
  | c :: cs, [], s, t, h, hg, hx => by cases h
  | c :: cs, x :: xs, s, t, h, hg, hx => by
    have h : (fldC c x s).bind (fldL cs xs) = some t := h
    obtain ⟨u, h1, h2⟩ := Option.bind_eq_some_iff.1 h
    exact fldL_good cs xs u t h2 (fldC_good h1 hg (hx x List.mem_cons_self)) (fun y hy => hx y (List.mem_cons_of_mem _ hy))
theorem stepAt_good (w : List ByteArray) (hx : ∀ x ∈ w, x.size ≤ 90000) : ∀ (d k : Nat), Good (stepAt w d k).2
  | 0, k => ⟨Bytes.nil, Nat.zero_le _⟩
  | d + 1, k => by
    rw [stepAt]
    split
    · cases hf : fldL (D (pt k)) (w.drop 1) ((k : Int), 0, 0, 0, 0, 0, []) with
      | none => exact ⟨Bytes.nil, Nat.zero_le _⟩
      | some t => exact fldL_good _ _ _ t hf ⟨Bytes.nil, Nat.zero_le _⟩ (fun x h => hx x (List.mem_of_mem_drop h))
    · exact stepAt_good w hx d (k + 1)
theorem parseL_good : ∀ (L : List ByteArray) (i : Nat) (out : List Stp) (hL : ∀ x ∈ L, x.size ≤ 80000) (ho : ∀ s ∈ out, Good s), ∀ s ∈ (parseL L i out).1, Good s
  | [], i, out, hL, ho => ho
  | x :: L, i, out, hL, ho => by
    have hL' : ∀ y ∈ L, y.size ≤ 80000 := fun y hy => hL y (List.mem_cons_of_mem _ hy)
    rw [parseL]
    split
    · exact parseL_good L _ _ hL' ho
    · split
      · intro s hs; cases hs
      · refine parseL_good L _ _ hL' (fun s hs => ?_)
        rcases List.mem_append.1 hs with hs | hs
        · exact ho s hs
        · simp only [List.mem_singleton] at hs
          subst hs
          exact stepAt_good _ (fun y hy => by have := pieceB_sz hy; have := hL x List.mem_cons_self; omega) 16 1
theorem parseT_good (s : ByteArray) : ∀ x ∈ (parseT s).1, Good x := by
  unfold parseT
  split
  · intro x hx; cases hx
  · rename_i h
    exact parseL_good _ 0 [] (fun x hx => by have := lines_sz hx; omega) (fun x hx => by cases hx)
theorem parseL_err : ∀ (L : List ByteArray) (i : Nat) (out : List Stp), (parseL L i out).2.2 ≠ 0 → (parseL L i out).1 = []
  | [], i, out, h => absurd rfl h
  | x :: L, i, out, h => by
    rw [parseL] at h ⊢
    split
    · rename_i c
      rw [if_pos c] at h
      exact parseL_err L _ _ h
    · rename_i c
      rw [if_neg c] at h
      split
      · rfl
      · rename_i c2
        rw [if_neg c2] at h
        exact parseL_err L _ _ h
theorem parseT_err (s : ByteArray) (h : (parseT s).2.2 ≠ 0) : (parseT s).1 = [] := by
  unfold parseT at h ⊢
  split
  · rfl
  · rename_i c
    rw [if_neg c] at h
    exact parseL_err _ _ _ h
theorem ScriptBack (l : List (Int × Int × Int × Int × Int × Int × List Int)) (h0 : K.ok (.slice (.pair (.int .i64) (.pair (.int .i64) (.pair (.int .i64) (.pair (.int .i64) (.pair (.int .i64) (.pair (.int .i64) (.slice (.int .u8))))))))) l) (s : ByteArray) (h1 : K.ok .str s) : ∃ n, f10_broughamlaw25_ScriptBack n l s = some true := by
  apply Ev.true
  have hl := stp_ok h0
  unfold f10_broughamlaw25_ScriptBack
  refine Ev.bind (great_ev l (fun x hx => (hl x hx).2)) ?_
  rintro _ (rfl | ⟨rfl, h6, h4⟩)
  · exact Ev.pos rfl (Ev.some rfl)
  refine Ev.neg (by decide) (Ev.ite (fun _ => Ev.some rfl) (fun c => ?_))
  simp only [decide_eq_true_eq] at c
  have hg : ∀ x ∈ l, Good x := fun x hx => ⟨(hl x hx).1, by have := h4 x hx; omega⟩
  have hx := parseT_good s
  refine Ev.bind (text_ev2 l hg) ?_
  rintro _ rfl
  have hsz : ∀ q : List Stp, (textT q).1.size ≤ 9223372036854775807 := by
    intro q
    rcases textT_cases q with e | ⟨e, _, e3, _⟩
    · rw [e]; show 0 ≤ _; omega
    · rw [e]
      have : (unw (bodyS q)).size = (bodyS q).length := by rw [sz_D]; rfl
      show (unw (bodyS q)).size ≤ _
      omega
  refine Ev.bind (parseT_ev _ (hsz l)) ?_
  rintro _ rfl
  have back : ∀ q : List Stp, (∀ x ∈ q, Good x) → (textT q = (⟨#[]⟩, 230)) ∨ ((textT q).2 = 0 ∧ parseT (textT q).1 = (q, 0, 0)) := by
    intro q hq
    rcases textT_cases q with e | ⟨e, e2, e3, e4⟩
    · exact .inl e
    · refine .inr ⟨by rw [e], ?_⟩
      rw [e]
      exact parse_back q (fun x hx => ⟨e2 x hx, (hq x hx).1⟩) e3 e4
  have al : Ev (fun n => (f14_broughamlaw25_alive n).bind fun r => some r) (fun r => r = true) := Ev.bind alive_ev (fun r hr => Ev.some hr)
  have hlen := parseT_len s
  refine Ev.ite (fun c0 => ?_) (fun c0 => ?_)
  · have hb : parseT (textT l).1 = (l, 0, 0) := by
      rcases back l hg with e | e
      · rw [e] at c0; simp at c0
      · exact e.2
    rw [hb]
    refine Ev.neg (by simp) (Ev.bind (refsame_ev l l (by omega)) ?_)
    rintro _ rfl
    rw [sameS_refl]
    refine Ev.neg (by decide) (Ev.bind (parseT_ev s (by omega)) ?_)
    rintro _ rfl
    refine Ev.ite (fun c1 => ?_) (fun c1 => ?_)
    · simp only [bne_iff_ne, ne_eq] at c1
      rw [parseT_err s c1]
      exact Ev.pos (by simp) al
    · refine Ev.bind (text_ev2 _ hx) ?_
      rintro _ rfl
      refine Ev.bind (parseT_ev _ (hsz _)) ?_
      rintro _ rfl
      rcases back _ hx with e | ⟨e, e2⟩
      · rw [e]
        exact Ev.pos (by simp) (Ev.pos (str_refl _) al)
      · rw [e, e2]
        refine Ev.neg (by decide) (Ev.pos (by decide) (Ev.pos (by simp) (Ev.bind (psame_ev _ _ (by omega)) ?_)))
        rintro _ rfl
        rw [sameS_refl]
        exact Ev.pos rfl al
  · refine Ev.bind (parseT_ev s (by omega)) ?_
    rintro _ rfl
    refine Ev.ite (fun c1 => ?_) (fun c1 => ?_)
    · simp only [bne_iff_ne, ne_eq] at c1
      rw [parseT_err s c1]
      exact Ev.pos (by simp) al
    · refine Ev.bind (text_ev2 _ hx) ?_
      rintro _ rfl
      refine Ev.bind (parseT_ev _ (hsz _)) ?_
      rintro _ rfl
      rcases back _ hx with e | ⟨e, e2⟩
      · rw [e]
        exact Ev.pos (by simp) (Ev.pos (str_refl _) al)
      · rw [e, e2]
        refine Ev.neg (by decide) (Ev.pos (by decide) (Ev.pos (by simp) (Ev.bind (psame_ev _ _ (by omega)) ?_)))
        rintro _ rfl
        rw [sameS_refl]
        exact Ev.pos rfl al
end Go.Proofs.YtakamchmiakicaaDoorF25b
