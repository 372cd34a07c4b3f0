/- ScriptReads: each text is read as its steps, or refused at its first wrong line: of the functions that text F25 prints. Conditions: none. -/
import Derived.Test.YtakamchmiakicaaDoorPureSteps
namespace Go.Proofs.YtakamchmiakicaaDoorF25
open Go Zed Go.Proofs.YtakamchmiakicaaDoorLeaf
set_option linter.unusedVariables false
set_option linter.unusedSimpArgs false
set_option maxRecDepth 100000

/-- What stands between bytes c. -/
def sp (c : UInt8) (now : List UInt8) : List UInt8 → List (List UInt8)
  | [] => [now]
  | x :: r => if x = c then now :: sp c [] r else sp c (now ++ [x]) r
theorem sp_no (c : UInt8) : ∀ (l now : List UInt8), c ∉ l → sp c now l = [now ++ l]
  | [], now, h => by rw [List.append_nil]; rfl
  | x :: r, now, h => by
    have hx : ¬ x = c := fun e => h (by rw [e]; exact List.mem_cons_self)
    rw [sp, if_neg hx, sp_no c r _ (fun q => h (List.mem_cons_of_mem _ q)), List.append_assoc]; rfl
theorem sp_at (c : UInt8) : ∀ (a r now : List UInt8), c ∉ a → sp c now (a ++ c :: r) = (now ++ a) :: sp c [] r
  | [], r, now, h => by rw [List.nil_append, sp, if_pos rfl, List.append_nil]
  | x :: a, r, now, h => by
    have hx : ¬ x = c := fun e => h (by rw [e]; exact List.mem_cons_self)
    rw [List.cons_append, sp, if_neg hx, sp_at c a r _ (fun q => h (List.mem_cons_of_mem _ q)), List.append_assoc]; rfl
theorem splitK_sp (c : UInt8) : ∀ (k : Nat) (l : List UInt8), l.count c ≤ k → Lib.splitK [c] 0 k l = sp c [] l
  | 0, l, h => by
    have hn : c ∉ l := fun hm => by have := List.count_pos_iff.2 hm; omega
    rw [sp_no c l [] hn, List.nil_append]
    rfl
  | k + 1, l, h => by
    rw [Lib.splitK, Lib.index_one]
    rcases byte_cases l c with e | ⟨o, e⟩
    · rw [e, if_pos (by decide), sp_no c l [] (byte_none e)]; rfl
    · obtain ⟨h1, h2, h3⟩ := byte_some e
      rw [e, if_neg (by rw [beq_iff_eq]; omega), Int.toNat_natCast, Nat.add_zero]
      have hc : l.count c = (l.drop (o + 1)).count c + 1 := by
        conv => lhs; rw [h1]
        rw [List.count_append, List.count_eq_zero.2 h2, List.count_cons_self]; omega
      show l.take o :: Lib.splitK [c] 0 k (l.drop (o + 1)) = _
      rw [splitK_sp c k _ (by omega)]
      conv => rhs; rw [h1]
      rw [sp_at c _ _ [] h2]; rfl
theorem split_sp (s : ByteArray) (c : UInt8) : (splitS s ⟨#[c]⟩).map D = sp c [] (D s) := by
  unfold splitS
  have e : (Lib.splitB ⟨#[c]⟩ 0 (Lib.countB s ⟨#[c]⟩) s).map D = Lib.splitK [c] 0 (Lib.countB s ⟨#[c]⟩) (D s) := Lib.splitB_data ⟨#[c]⟩ 0 _ s
  rw [e, splitK_sp c _ (D s) (by rw [countB_cut]; exact Nat.le_refl _)]
def linesB (s : ByteArray) : List ByteArray := (sp 10 [] (D s)).map unw
theorem split_lines (s : ByteArray) : splitS s ⟨#[10]⟩ = linesB s := map_unw (split_sp s 10)
theorem sp_len (c : UInt8) : ∀ (l now : List UInt8), (sp c now l).length ≤ 1 + l.length ∧ ∀ x ∈ sp c now l, x.length ≤ now.length + l.length
  | [], now => by
    refine ⟨Nat.le_refl _, fun x hx => ?_⟩
    simp only [sp, List.mem_singleton] at hx
    subst hx; simp
  | y :: r, now => by
    rw [sp]
    split
    · obtain ⟨h1, h2⟩ := sp_len c r []
      refine ⟨by simp only [List.length_cons]; omega, fun x hx => ?_⟩
      rcases List.mem_cons.1 hx with rfl | hx
      · omega
      · have := h2 x hx
        simp only [List.length_cons, List.length_nil] at this ⊢; omega
    · obtain ⟨h1, h2⟩ := sp_len c r (now ++ [y])
      refine ⟨by simp only [List.length_cons]; omega, fun x hx => ?_⟩
      have := h2 x hx
      simp only [List.length_append, List.length_cons, List.length_nil] at this ⊢; omega
theorem lines_len (s : ByteArray) : (linesB s).length ≤ 1 + s.size := by
  unfold linesB
  rw [List.length_map, sz_D]
  exact (sp_len 10 (D s) []).1
theorem lines_sz {s x : ByteArray} (h : x ∈ linesB s) : x.size ≤ s.size := by
  obtain ⟨y, hy, rfl⟩ := List.mem_map.1 h
  have := (sp_len 10 (D s) []).2 y hy
  rw [sz_D, sz_D s]
  simp only [List.length_nil] at this
  show y.length ≤ _
  omega
theorem ext_D_is (s : ByteArray) (a b : Nat) (h : a ≤ b) : D (s.extract a b) = ((D s).drop a).take (b - a) := by
  show (s.extract a b).data.toList = _
  rw [Lib.extract_data]; rfl
theorem reflines_loop (s : ByteArray) (hs : s.size ≤ 90000) : ∀ (d i : Nat) (hi : i + d = s.size) (out : List ByteArray) (fr : Nat) (hf : fr ≤ i) (ho : out.length ≤ i),
    Ev (fun n => f47_broughamref01_Lines_L4 n s out (fr : Int) (i : Int)) (fun w => ∃ f : Nat, w.1 = s ∧ w.2.2 = (f : Int) ∧ f ≤ s.size ∧ w.2.1.length ≤ s.size ∧ w.2.1.map D ++ [(D s).drop f] = out.map D ++ sp 10 (((D s).drop fr).take (i - fr)) ((D s).drop i))
  | 0, i, hi, out, fr, hf, ho => by
    apply Ev.succ
    unfold f47_broughamref01_Lines_L4
    refine Ev.neg (by simp only [decide_eq_true_eq]; omega) (Ev.some ⟨fr, rfl, rfl, by omega, by show out.length ≤ _; omega, ?_⟩)
    have hD : (D s).length = s.size := (sz_D s).symm
    rw [List.drop_eq_nil_of_le (show (D s).length ≤ i by omega), List.take_of_length_le (by rw [List.length_drop]; omega)]
    rfl
  | d + 1, i, hi, out, fr, hf, ho => by
    have hD : (D s).length = s.size := (sz_D s).symm
    have hil : i < (D s).length := by omega
    have hbt : byteAt s (i : Int) = (((D s)[i]'hil).toNat : Int) := byte_at hil
    have hdrop : (D s).drop i = (D s)[i] :: (D s).drop (i + 1) := List.drop_eq_getElem_cons hil
    apply Ev.succ
    unfold f47_broughamref01_Lines_L4
    rw [i64_id (e := (i : Int) + 1) (by omega) (by omega), hbt, Int.toNat_natCast, Int.toNat_natCast, hdrop, sp]
    have hnow : ((D s).drop fr).take (i + 1 - fr) = ((D s).drop fr).take (i - fr) ++ [(D s)[i]] := by
      rw [show i + 1 - fr = (i - fr) + 1 by omega, List.take_add_one, List.getElem?_drop, show fr + (i - fr) = i by omega, List.getElem?_eq_getElem hil]; rfl
    have ih1 := reflines_loop s hs d (i + 1) (by omega) (out ++ [s.extract fr i]) (i + 1) (by omega) (by simp; omega)
    have ih2 := reflines_loop s hs d (i + 1) (by omega) out fr (by omega) (by omega)
    rw [hnow] at ih2
    generalize hx : (D s)[i] = x at *
    have h10 : (10 : UInt8).toNat = 10 := rfl
    refine Ev.pos (by simp only [decide_eq_true_eq]; omega) (Ev.guard (by omega) (Ev.ite (fun c => ?_) (fun c => ?_)))
    · have e : x = 10 := UInt8.toNat_inj.1 (by simp only [beq_iff_eq] at c; omega)
      rw [if_pos e]
      refine Ev.guard (by simp [cutOk]; omega) (Ev.guard (by simp only [List.length_singleton, maxLen]; omega) (ih1.mono ?_))
      rintro w ⟨f, h1, h2, h3, h4, h5⟩
      refine ⟨f, h1, h2, h3, h4, ?_⟩
      rw [h5, Nat.sub_self, List.take_zero, List.map_append, List.append_assoc]
      show _ ++ ([D (s.extract fr i)] ++ _) = _
      rw [ext_D_is s fr i hf]; rfl
    · have e : ¬ x = 10 := fun e => c (by rw [e]; rfl)
      rw [if_neg e]
      exact ih2
theorem reflines_ev (s : ByteArray) (hs : s.size ≤ 90000) : Ev (fun n => f47_broughamref01_Lines n s) (fun r => r = linesB s) := by
  unfold f47_broughamref01_Lines
  refine Ev.bind (reflines_loop s hs s.size 0 (by omega) [] 0 (Nat.le_refl 0) (by simp)) ?_
  rintro ⟨w1, w2, w3⟩ ⟨f, h1, h2, h3, h4, h5⟩
  dsimp only at h1 h2 h4 h5 ⊢
  subst h1 h2
  rw [Int.toNat_natCast]
  refine Ev.guard (by simp [cutOk]; omega) (Ev.guard (by simp only [List.length_singleton, maxLen]; omega) (Ev.some (map_unw ?_)))
  rw [List.map_append]
  show _ ++ [D (w1.extract f w1.size)] = _
  rw [ext_D_is w1 f w1.size h3, List.take_of_length_le (by rw [List.length_drop, ← sz_D]; omega), h5]
  rfl
/-! The texts. -/
def parseL : List ByteArray → Nat → List Stp → List Stp × Int × Int
  | [], _, out => (out, 0, 0)
  | l :: ls, i, out => if pieceB l = [] then parseL ls (i + 1) out
    else if (stepB (pieceB l)).1 = false ∨ out.length = 512 then ([], ((i : Int) + 1), 230)
    else parseL ls (i + 1) (out ++ [(stepB (pieceB l)).2])
def G3 (r : (List Stp × Int × Int) ⊕ (List Stp)) : List Stp × Int × Int := match r with
  | .inl e => e
  | .inr o => (o, 0, 0)
theorem parse_loop (L : List ByteArray) (hl : L.length ≤ 90000) (hb : ∀ x ∈ L, x.size ≤ 80000) : ∀ (d i : Nat) (hi : i + d = L.length) (out : List Stp) (ho : out.length ≤ 512),
    Ev (fun n => f11_script_Parse_L5 n out L ((L.length : Nat) : Int) (i : Int)) (fun r => G3 r = parseL (L.drop i) i out)
  | 0, i, hi, out, ho => by
    apply Ev.succ
    unfold f11_script_Parse_L5
    rw [List.drop_eq_nil_of_le (by omega)]
    exact Ev.neg (by simp only [decide_eq_true_eq]; omega) (Ev.some rfl)
  | d + 1, i, hi, out, ho => by
    have hx := hb _ (getD_mem (show i < L.length by omega) ByteArray.empty)
    have hdr : L.drop i = L.getD i ByteArray.empty :: L.drop (i + 1) := drop_cons (by omega) _
    have ih := fun out' ho' => parse_loop L hl hb d (i + 1) (by omega) out' ho'
    apply Ev.succ
    unfold f11_script_Parse_L5
    rw [i64_id (e := (i : Int) + 1) (by omega) (by omega), Int.toNat_natCast, hdr, parseL]
    generalize L.getD i ByteArray.empty = x at hx
    refine Ev.pos (by simp only [decide_eq_true_eq]; omega) (Ev.guard (by omega) (Ev.bind (pieceB_ev x (by omega)) ?_))
    rintro _ rfl
    have hpl := pieceB_len x
    have hpb : ∀ y ∈ pieceB x, y.size ≤ 90000 := fun y hy => by have := pieceB_sz hy; omega
    refine Ev.ite (fun c => ?_) (fun c => ?_)
    · have c : pieceB x = [] := List.eq_nil_of_length_eq_zero (by simp only [beq_iff_eq] at c; omega)
      rw [if_pos c]
      exact ih out ho
    · have c : ¬ (pieceB x).length = 0 := by simp only [beq_iff_eq] at c; omega
      rw [if_neg (fun e => c (by rw [e]; rfl))]
      refine Ev.bind (step_ev (pieceB x) (by omega) (by omega) hpb) ?_
      rintro _ rfl
      generalize stepB (pieceB x) = v
      refine Ev.ite (fun c1 => Ev.some ?_) (fun c1 => Ev.ite (fun c2 => Ev.some ?_) (fun c2 => Ev.guard (by simp only [List.length_singleton, maxLen]; omega) ?_))
      · rw [if_pos (.inl (by simpa using c1))]; rfl
      · rw [if_pos (.inr (by simp only [beq_iff_eq] at c2; omega))]; rfl
      · have c2 : ¬ out.length = 512 := by simp only [beq_iff_eq] at c2; omega
        rw [if_neg (by rintro (q | q); exact c1 (by rw [q]; rfl); exact c2 q)]
        exact ih _ (by simp; omega)
theorem refparse_loop2 (L : List ByteArray) (hl : L.length ≤ 90000) (hb : ∀ x ∈ L, x.size ≤ 80000) : ∀ (d i : Nat) (hi : i + d = L.length) (out : List Stp) (ho : out.length ≤ 512),
    Ev (fun n => f12_broughamref25_Parse_L6 n out L (i : Int)) (fun r => G3 r = parseL (L.drop i) i out)
  | 0, i, hi, out, ho => by
    apply Ev.succ
    unfold f12_broughamref25_Parse_L6
    rw [List.drop_eq_nil_of_le (by omega)]
    exact Ev.neg (by simp only [decide_eq_true_eq]; omega) (Ev.some rfl)
  | d + 1, i, hi, out, ho => by
    have hx := hb _ (getD_mem (show i < L.length by omega) ByteArray.empty)
    have hdr : L.drop i = L.getD i ByteArray.empty :: L.drop (i + 1) := drop_cons (by omega) _
    have ih := fun out' ho' => refparse_loop2 L hl hb d (i + 1) (by omega) out' ho'
    apply Ev.succ
    unfold f12_broughamref25_Parse_L6
    rw [i64_id (e := (i : Int) + 1) (by omega) (by omega), Int.toNat_natCast, hdr, parseL]
    generalize L.getD i ByteArray.empty = x at hx
    refine Ev.pos (by simp only [decide_eq_true_eq]; omega) (Ev.guard (by omega) (Ev.bind (pieceB_ref x (by omega)) ?_))
    rintro _ rfl
    have hpl := pieceB_len x
    have hpb : ∀ y ∈ pieceB x, y.size ≤ 90000 := fun y hy => by have := pieceB_sz hy; omega
    refine Ev.ite (fun c => ?_) (fun c => ?_)
    · have c : pieceB x = [] := List.eq_nil_of_length_eq_zero (by simp only [beq_iff_eq] at c; omega)
      rw [if_pos c]
      exact ih out ho
    · have c : ¬ (pieceB x).length = 0 := by simp only [beq_iff_eq] at c; omega
      rw [if_neg (fun e => c (by rw [e]; rfl))]
      refine Ev.bind (refstep_ev (pieceB x) (by omega) (by omega) hpb) ?_
      rintro _ rfl
      generalize stepB (pieceB x) = v
      refine Ev.ite (fun c1 => Ev.some ?_) (fun c1 => Ev.ite (fun c2 => Ev.some ?_) (fun c2 => Ev.guard (by simp only [List.length_singleton, maxLen]; omega) ?_))
      · rw [if_pos (.inl (by simpa using c1))]; rfl
      · rw [if_pos (.inr (by simp only [beq_iff_eq] at c2; omega))]; rfl
      · have c2 : ¬ out.length = 512 := by simp only [beq_iff_eq] at c2; omega
        rw [if_neg (by rintro (q | q); exact c1 (by rw [q]; rfl); exact c2 q)]
        exact ih _ (by simp; omega)
/-- The steps of a text, or the line that is wrong. -/
def parseT (s : ByteArray) : List Stp × Int × Int := if s.size > 65536 then ([], 0, 230) else parseL (linesB s) 0 []
theorem parseT_ev (s : ByteArray) (hs : s.size ≤ 9223372036854775807) : Ev (fun n => f11_script_Parse n s) (fun r => r = parseT s) := by
  unfold f11_script_Parse parseT
  refine Ev.ite (fun c => Ev.some ?_) (fun c => ?_)
  · simp only [decide_eq_true_eq] at c
    rw [if_pos (by omega)]
  simp only [decide_eq_true_eq] at c
  rw [if_neg (by omega)]
  refine Ev.bind (P := fun r => r = linesB s) ?_ ?_
  · unfold f45_strings_Split
    exact Ev.pos ⟨rfl, by omega⟩ (Ev.some (split_lines s))
  rintro _ rfl
  have h1 := lines_len s
  refine Ev.bind (parse_loop (linesB s) (by omega) (fun x hx => by have := lines_sz hx; omega) (linesB s).length 0 (by omega) [] (by simp)) ?_
  intro r hr
  rw [List.drop_zero] at hr
  rcases r with e | e
  · exact Ev.some hr
  · exact Ev.some hr
theorem refparseT_ev (s : ByteArray) (hs : s.size ≤ 9223372036854775807) : Ev (fun n => f12_broughamref25_Parse n s) (fun r => r = parseT s) := by
  unfold f12_broughamref25_Parse parseT
  refine Ev.ite (fun c => Ev.some ?_) (fun c => ?_)
  · simp only [decide_eq_true_eq] at c
    rw [if_pos (by omega)]
  simp only [decide_eq_true_eq] at c
  rw [if_neg (by omega)]
  refine Ev.bind (reflines_ev s (by omega)) ?_
  rintro _ rfl
  have h1 := lines_len s
  refine Ev.bind (refparse_loop2 (linesB s) (by omega) (fun x hx => by have := lines_sz hx; omega) (linesB s).length 0 (by omega) [] (by simp)) ?_
  intro r hr
  rw [List.drop_zero] at hr
  rcases r with e | e
  · exact Ev.some hr
  · exact Ev.some hr
theorem parseL_len : ∀ (L : List ByteArray) (i : Nat) (out : List Stp) (ho : out.length ≤ 512), (parseL L i out).1.length ≤ 512
  | [], i, out, ho => ho
  | l :: ls, i, out, ho => by
    rw [parseL]
    split
    · exact parseL_len ls _ _ ho
    · split
      · simp
      · rename_i c
        exact parseL_len ls _ _ (by simp only [List.length_append, List.length_singleton]; have := fun e => c (.inr e); omega)
theorem parseT_len (s : ByteArray) : (parseT s).1.length ≤ 512 := by
  unfold parseT
  split
  · simp
  · exact parseL_len _ _ _ (by simp)
theorem same_loop (a : List Stp) (hl : a.length ≤ 100000) : ∀ (d i : Nat) (hi : i + d = a.length), Ev (fun n => f13_broughamref25_Same_L4 n a a (i : Int)) (fun w => w = .inr ())
  | 0, i, hi => by
    apply Ev.succ
    unfold f13_broughamref25_Same_L4
    exact Ev.neg (by simp only [decide_eq_true_eq]; omega) (Ev.some rfl)
  | d + 1, i, hi => by
    apply Ev.succ
    unfold f13_broughamref25_Same_L4
    rw [Int.toNat_natCast, i64_id (e := (i : Int) + 1) (by omega) (by omega)]
    refine Ev.pos (by simp only [decide_eq_true_eq]; omega) (Ev.guard (by omega) (Ev.guard (by omega) ?_))
    exact Ev.neg (by simp) (Ev.neg (by simp) (Ev.neg (by simp) (Ev.neg (by simp) (Ev.neg (by simp) (Ev.neg (by simp) (Ev.neg (by simp) (same_loop a hl d (i + 1) (by omega))))))))
theorem same_ev (a : List Stp) (hl : a.length ≤ 100000) : Ev (fun n => f13_broughamref25_Same n a a) (fun r => r = true) := by
  unfold f13_broughamref25_Same
  refine Ev.neg (by simp) (Ev.bind (same_loop a hl a.length 0 (by omega)) ?_)
  rintro _ rfl
  exact Ev.some rfl
theorem alive_ev : Ev (fun n => f14_broughamlaw25_alive n) (fun r => r = true) := Ev.at 60 (fun m => by kernel_rfl) rfl
theorem ScriptReads (s : ByteArray) (h0 : K.ok .str s) : ∃ n, f3_broughamlaw25_ScriptReads n s = some true := by
  apply Ev.true
  unfold f3_broughamlaw25_ScriptReads
  refine Ev.ite (fun _ => Ev.some rfl) fun c => ?_
  simp only [decide_eq_true_eq] at c
  refine Ev.bind (parseT_ev s (by omega)) ?_
  rintro _ rfl
  refine Ev.bind (refparseT_ev s (by omega)) ?_
  rintro _ rfl
  have := parseT_len s
  refine Ev.pos (by simp) (Ev.pos (by simp) (Ev.bind (same_ev _ (by omega)) ?_))
  rintro _ rfl
  exact Ev.pos rfl (Ev.bind alive_ev (fun r hr => Ev.some hr))
end Go.Proofs.YtakamchmiakicaaDoorF25
