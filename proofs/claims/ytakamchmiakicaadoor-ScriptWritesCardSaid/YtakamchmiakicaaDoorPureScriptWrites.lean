/- ScriptWrites: steps are written in one form, or refused; which can be written, and which are the same: of the functions that texts F25a and F25 print. Conditions: none. -/
import Derived.Test.YtakamchmiakicaaDoorPureScript25
namespace Go.Proofs.YtakamchmiakicaaDoorF25
open Go Zed Go.Proofs.YtakamchmiakicaaDoorLeaf
set_option linter.unusedVariables false
set_option linter.unusedSimpArgs false
set_option maxRecDepth 100000

def textS : List Stp → List UInt8 → ByteArray × Int
  | [], acc => (unw acc, 0)
  | s :: r, acc => if rightS s = true then (if (acc ++ lineS s ++ [10]).length > 65536 then (⟨#[]⟩, 230) else textS r (acc ++ lineS s ++ [10])) else (⟨#[]⟩, 230)
def textT (l : List Stp) : ByteArray × Int := if l.length > 512 then (⟨#[]⟩, 230) else textS l []
theorem textR_ev : ∀ (l : List Stp) (hg : ∀ x ∈ l, Good x) (acc : List UInt8), Ev (fun n => Go.Proofs.YtakamchmiakicaaDoorSText.textR n l acc) (fun r => r = textS l acc)
  | [], hg, acc => Ev.some rfl
  | s :: r, hg, acc => by
    have ih := fun acc => textR_ev r (fun x hx => hg x (List.mem_cons_of_mem _ hx)) acc
    have hgs := hg s List.mem_cons_self
    unfold Go.Proofs.YtakamchmiakicaaDoorSText.textR
    rw [textS]
    refine Ev.bind (aright_ev s) ?_
    rintro _ rfl
    cases hb : rightS s with
    | false => exact Ev.neg (by decide) (Ev.some rfl)
    | true =>
      refine Ev.pos rfl (Ev.bind (aline_ev s hb hgs) ?_)
      rintro _ rfl
      have hlen := lineS_len (right_parts hb).1 hgs
      have e : (unw (lineS s)).data.toList = lineS s := rfl
      rw [e, if_pos rfl]
      refine Ev.guard (by rw [sz_D]; show (lineS s).length ≤ _; omega) ?_
      refine Ev.ite (fun c => Ev.some ?_) (fun c => ?_)
      · rw [if_pos c]
      · rw [if_neg c]; exact ih _
theorem text_ev2 (l : List Stp) (hg : ∀ x ∈ l, Good x) : Ev (fun n => Go.Proofs.YtakamchmiakicaaDoorSText.f40_script_Text n l) (fun r => r = textT l) := by
  unfold Go.Proofs.YtakamchmiakicaaDoorSText.f40_script_Text textT
  refine Ev.ite (fun c => Ev.some ?_) (fun c => ?_)
  · rw [if_pos c]
  · rw [if_neg c]; exact textR_ev l hg []
def G4 (r : (ByteArray × Int) ⊕ ByteArray) : ByteArray × Int := match r with
  | .inl e => e
  | .inr s => (s, 0)
theorem reftextS_loop (l : List Stp) (hl : l.length ≤ 600) (hg : ∀ x ∈ l, Good x) : ∀ (d i : Nat) (hi : i + d = l.length) (s : ByteArray) (hs : s.size ≤ 65536), Ev (fun n => f41_broughamref25_Text_L5 n l s (i : Int)) (fun r => G4 r = textS (l.drop i) (D s))
  | 0, i, hi, s, hs => by
    apply Ev.succ
    unfold f41_broughamref25_Text_L5
    rw [List.drop_eq_nil_of_le (by omega)]
    exact Ev.neg (by simp only [decide_eq_true_eq]; omega) (Ev.some (by show (s, (0 : Int)) = (unw (D s), 0); rw [unw_D]))
  | d + 1, i, hi, s, hs => by
    have hdr : l.drop i = l.getD i (0, (0, (0, (0, (0, (0, [])))))) :: l.drop (i + 1) := drop_cons (by omega) _
    have hgx := hg _ (getD_mem (show i < l.length by omega) (0, (0, (0, (0, (0, (0, [])))))))
    have ih := fun s' hs' => reftextS_loop l hl hg d (i + 1) (by omega) s' hs'
    apply Ev.succ
    unfold f41_broughamref25_Text_L5
    rw [i64_id (e := (i : Int) + 1) (by omega) (by omega), Int.toNat_natCast, hdr, textS]
    generalize l.getD i (0, (0, (0, (0, (0, (0, [])))))) = x at hgx
    refine Ev.pos (by simp only [decide_eq_true_eq]; omega) (Ev.guard (by omega) (Ev.bind (refright_ev x) ?_))
    rintro _ rfl
    cases hb : rightS x with
    | false => exact Ev.pos (by decide) (Ev.some rfl)
    | true =>
      rw [if_pos rfl]
      refine Ev.neg (by decide) (Ev.guard (by omega) (Ev.bind (refline_ev x hb hgx) ?_))
      rintro _ rfl
      have hlen := lineS_len (right_parts hb).1 hgx
      have hsz : (unw (lineS x ++ [10])).size = (lineS x).length + 1 := by
        rw [sz_D]
        show (lineS x ++ [10]).length = _
        simp
      have hD : D (s ++ unw (lineS x ++ [10])) = D s ++ lineS x ++ [10] := by
        rw [D_app, List.append_assoc]; rfl
      have hsz2 : (s ++ unw (lineS x ++ [10])).size = (D s ++ lineS x ++ [10]).length := by rw [sz_D, hD]
      refine Ev.guard (by rw [hsz]; omega) (Ev.ite (fun c => Ev.some ?_) (fun c => ?_))
      · rw [if_pos (by simp only [decide_eq_true_eq] at c; omega)]; rfl
      · have c : ¬ (D s ++ lineS x ++ [10]).length > 65536 := by simp only [decide_eq_true_eq] at c; omega
        rw [if_neg c, ← hD]
        exact ih _ (by omega)
theorem reftextT_ev (l : List Stp) (hg : ∀ x ∈ l, Good x) : Ev (fun n => f41_broughamref25_Text n l) (fun r => r = textT l) := by
  unfold f41_broughamref25_Text textT
  refine Ev.ite (fun c => Ev.some ?_) (fun c => ?_)
  · rw [if_pos (by simp only [decide_eq_true_eq] at c; omega)]
  · simp only [decide_eq_true_eq] at c
    rw [if_neg (by omega)]
    refine Ev.bind (reftextS_loop l (by omega) hg l.length 0 (by omega) ⟨#[]⟩ (Nat.zero_le _)) ?_
    intro r hr
    rw [List.drop_zero] at hr
    rcases r with e | e
    · exact Ev.some hr
    · exact Ev.some hr
/-! Same. -/
def sameE (x y : Stp) : Bool := decide (x.1 = y.1 ∧ x.2.1 = y.2.1 ∧ x.2.2.1 = y.2.2.1 ∧ x.2.2.2.1 = y.2.2.2.1 ∧ x.2.2.2.2.1 = y.2.2.2.2.1 ∧ x.2.2.2.2.2.1 = y.2.2.2.2.2.1 ∧ D (strOfNums x.2.2.2.2.2.2) = D (strOfNums y.2.2.2.2.2.2))
def sameF (a b : List Stp) : Nat → Nat → Bool
  | 0, _ => true
  | d + 1, i => sameE (a.getD i (0, (0, (0, (0, (0, (0, []))))))) (b.getD i (0, (0, (0, (0, (0, (0, []))))))) && sameF a b d (i + 1)
def U2 (b : Bool) : Bool ⊕ Unit := if b = true then .inr () else .inl false
theorem same_chain {F : Nat → Option (Bool ⊕ Unit)} {b : Bool} (x y : Stp) (ih : Ev F (fun w => w = U2 b)) :
    Ev (fun n => if (x.1 != y.1) = true then some (.inl false) else if (x.2.1 != y.2.1) = true then some (.inl false) else if (x.2.2.1 != y.2.2.1) = true then some (.inl false) else if (x.2.2.2.1 != y.2.2.2.1) = true then some (.inl false) else
      if (x.2.2.2.2.1 != y.2.2.2.2.1) = true then some (.inl false) else if (x.2.2.2.2.2.1 != y.2.2.2.2.2.1) = true then some (.inl false) else if (!((strOfNums x.2.2.2.2.2.2).toList == (strOfNums y.2.2.2.2.2.2).toList)) = true then some (.inl false) else F n) (fun w => w = U2 (sameE x y && b)) := by
  have no : ¬ (x.1 = y.1 ∧ x.2.1 = y.2.1 ∧ x.2.2.1 = y.2.2.1 ∧ x.2.2.2.1 = y.2.2.2.1 ∧ x.2.2.2.2.1 = y.2.2.2.2.1 ∧ x.2.2.2.2.2.1 = y.2.2.2.2.2.1 ∧ D (strOfNums x.2.2.2.2.2.2) = D (strOfNums y.2.2.2.2.2.2)) → Sum.inl false = U2 (sameE x y && b) := fun q => by
    unfold sameE; rw [decide_eq_false q]; rfl
  rw [str_dec]
  refine Ev.ite (fun c => Ev.some (no fun q => ?_)) (fun c1 => Ev.ite (fun c => Ev.some (no fun q => ?_)) (fun c2 => Ev.ite (fun c => Ev.some (no fun q => ?_)) (fun c3 => Ev.ite (fun c => Ev.some (no fun q => ?_)) (fun c4 => Ev.ite (fun c => Ev.some (no fun q => ?_)) (fun c5 => Ev.ite (fun c => Ev.some (no fun q => ?_)) (fun c6 => Ev.ite (fun c => Ev.some (no fun q => ?_)) (fun c7 => ?_)))))))
  · simp [q.1] at c
  · simp [q.2.1] at c
  · simp [q.2.2.1] at c
  · simp [q.2.2.2.1] at c
  · simp [q.2.2.2.2.1] at c
  · simp [q.2.2.2.2.2.1] at c
  · have q7 : (strOfNums x.2.2.2.2.2.2).data.toList = (strOfNums y.2.2.2.2.2.2).data.toList := q.2.2.2.2.2.2
    rw [decide_eq_true q7] at c; cases c
  · simp only [bne_iff_ne, ne_eq, Decidable.not_not, Bool.not_eq_true', decide_eq_false_iff_not] at c1 c2 c3 c4 c5 c6 c7
    have e : sameE x y = true := decide_eq_true ⟨c1, c2, c3, c4, c5, c6, c7⟩
    rw [e, Bool.true_and]
    exact ih
theorem refsame_loop (a b : List Stp) (hl : a.length = b.length) (ha : a.length ≤ 100000) : ∀ (d i : Nat) (hi : i + d = a.length), Ev (fun n => f13_broughamref25_Same_L4 n a b (i : Int)) (fun w => w = U2 (sameF a b d i))
  | 0, i, hi => by
    apply Ev.succ
    unfold f13_broughamref25_Same_L4
    exact Ev.neg (by simp only [decide_eq_true_eq]; omega) (Ev.some rfl)
  | d + 1, i, hi => by
    have ih := refsame_loop a b hl ha d (i + 1) (by omega)
    apply Ev.succ
    unfold f13_broughamref25_Same_L4
    rw [i64_id (e := (i : Int) + 1) (by omega) (by omega), Int.toNat_natCast]
    refine Ev.pos (by simp only [decide_eq_true_eq]; omega) (Ev.guard (by omega) (Ev.guard (by omega) ?_))
    exact same_chain (a.getD i (0, (0, (0, (0, (0, (0, []))))))) (b.getD i (0, (0, (0, (0, (0, (0, []))))))) ih
theorem psame_loop (a b : List Stp) (hl : a.length = b.length) (ha : a.length ≤ 100000) : ∀ (d i : Nat) (hi : i + d = a.length), Ev (fun n => f42_script_Same_L4 n b a ((a.length : Nat) : Int) (i : Int)) (fun w => w = U2 (sameF a b d i))
  | 0, i, hi => by
    apply Ev.succ
    unfold f42_script_Same_L4
    exact Ev.neg (by simp only [decide_eq_true_eq]; omega) (Ev.some rfl)
  | d + 1, i, hi => by
    have ih := psame_loop a b hl ha d (i + 1) (by omega)
    apply Ev.succ
    unfold f42_script_Same_L4
    rw [i64_id (e := (i : Int) + 1) (by omega) (by omega), Int.toNat_natCast]
    refine Ev.pos (by simp only [decide_eq_true_eq]; omega) (Ev.guard (by omega) (Ev.guard (by omega) ?_))
    exact same_chain (a.getD i (0, (0, (0, (0, (0, (0, []))))))) (b.getD i (0, (0, (0, (0, (0, (0, []))))))) ih
def sameS (a b : List Stp) : Bool := decide (a.length = b.length) && sameF a b a.length 0
theorem refsame_ev (a b : List Stp) (ha : a.length ≤ 100000) : Ev (fun n => f13_broughamref25_Same n a b) (fun r => r = sameS a b) := by
  unfold f13_broughamref25_Same sameS
  refine Ev.ite (fun c => Ev.some ?_) (fun c => ?_)
  · simp only [bne_iff_ne, ne_eq] at c
    rw [decide_eq_false (by omega)]; rfl
  · simp only [bne_iff_ne, ne_eq, Decidable.not_not] at c
    have hl : a.length = b.length := by omega
    rw [decide_eq_true hl, Bool.true_and]
    refine Ev.bind (refsame_loop a b hl ha a.length 0 (by omega)) ?_
    rintro _ rfl
    cases sameF a b a.length 0 with
    | false => exact Ev.some rfl
    | true => exact Ev.some rfl
theorem psame_ev (a b : List Stp) (ha : a.length ≤ 100000) : Ev (fun n => f42_script_Same n a b) (fun r => r = sameS a b) := by
  unfold f42_script_Same sameS
  refine Ev.ite (fun c => Ev.some ?_) (fun c => ?_)
  · simp only [bne_iff_ne, ne_eq] at c
    rw [decide_eq_false (by omega)]; rfl
  · simp only [bne_iff_ne, ne_eq, Decidable.not_not] at c
    have hl : a.length = b.length := by omega
    rw [decide_eq_true hl, Bool.true_and]
    refine Ev.bind (psame_loop a b hl ha a.length 0 (by omega)) ?_
    rintro _ rfl
    cases sameF a b a.length 0 with
    | false => exact Ev.some rfl
    | true => exact Ev.some rfl
theorem sameF_refl (a : List Stp) : ∀ d i, sameF a a d i = true
  | 0, _ => rfl
  | d + 1, i => by
    rw [sameF, sameF_refl a d (i + 1), Bool.and_true]
    exact decide_eq_true ⟨rfl, rfl, rfl, rfl, rfl, rfl, rfl⟩
theorem sameS_refl (a : List Stp) : sameS a a = true := by
  unfold sameS
  rw [decide_eq_true rfl, sameF_refl]; rfl
/-! What isn't too much. -/
theorem great_loop (l : List Stp) (hb : ∀ x ∈ l, (byt x).length ≤ 140737488351232) : ∀ (d i : Nat) (hi : i + d = l.length) (h6 : i ≤ 600) (n : Nat) (hn : n ≤ 40000) (ht : ∀ x ∈ l.take i, (byt x).length ≤ 40000),
    Ev (fun k => f39_broughamlaw25_great_L3 k l (n : Int) (i : Int)) (fun w => w = .inl true ∨ (w = .inr l ∧ (l.length ≤ 600 → ∀ x ∈ l, (byt x).length ≤ 40000)))
  | 0, i, hi, h6, n, hn, ht => by
    apply Ev.succ
    unfold f39_broughamlaw25_great_L3
    rw [List.take_of_length_le (by omega)] at ht
    exact Ev.neg (by simp only [decide_eq_true_eq]; omega) (Ev.some (.inr ⟨rfl, fun _ => ht⟩))
  | d + 1, i, hi, h6, n, hn, ht => by
    have hil : i < l.length := by omega
    have htake : l.take (i + 1) = l.take i ++ [l.getD i (0, (0, (0, (0, (0, (0, []))))))] := by
      rw [List.take_add_one]
      simp [List.getElem?_eq_getElem hil, List.getD_eq_getElem?_getD]
    have hx := hb _ (getD_mem hil (0, (0, (0, (0, (0, (0, [])))))))
    have ih := fun n' hn' ht' h6' => great_loop l hb d (i + 1) (by omega) h6' n' hn' ht'
    apply Ev.succ
    unfold f39_broughamlaw25_great_L3
    rw [i64_id (e := (i : Int) + 1) (by omega) (by omega), Int.toNat_natCast]
    rw [htake] at ih
    generalize l.getD i (0, (0, (0, (0, (0, (0, [])))))) = x at hx ih
    have hx2 : (byt x).length = x.2.2.2.2.2.2.length := rfl
    rw [i64_id (e := (n : Int) + ((x.2.2.2.2.2.2.length : Nat) : Int)) (by omega) (by omega)]
    refine Ev.pos (by simp only [decide_eq_true_eq]; omega) (Ev.ite (fun c => Ev.guard (by omega) (Ev.ite (fun _ => Ev.some (.inl rfl)) (fun c2 => ?_))) (fun c => Ev.some (.inr ⟨rfl, fun q => ?_⟩)))
    · simp only [decide_eq_true_eq] at c c2
      refine ih (n + x.2.2.2.2.2.2.length) (by omega) (fun y hy => ?_) (by omega)
      rcases List.mem_append.1 hy with hy | hy
      · exact ht y hy
      · simp only [List.mem_singleton] at hy; subst hy; omega
    · simp only [decide_eq_true_eq] at c
      omega
theorem great_ev (l : List Stp) (hb : ∀ x ∈ l, (byt x).length ≤ 140737488351232) : Ev (fun k => f39_broughamlaw25_great k l) (fun b => b = true ∨ (b = false ∧ l.length ≤ 600 ∧ ∀ x ∈ l, (byt x).length ≤ 40000)) := by
  unfold f39_broughamlaw25_great
  refine Ev.bind (great_loop l hb l.length 0 (by omega) (by omega) 0 (by omega) (by simp)) ?_
  rintro _ (rfl | ⟨rfl, h⟩)
  · exact Ev.some (.inl rfl)
  · refine Ev.some ?_
    by_cases q : l.length ≤ 600
    · exact .inr ⟨decide_eq_false (by omega), q, h q⟩
    · exact .inl (decide_eq_true (by omega))
theorem stp_ok {l : List (Int × Int × Int × Int × Int × Int × List Int)} (h : K.ok (.slice (.pair (.int .i64) (.pair (.int .i64) (.pair (.int .i64) (.pair (.int .i64) (.pair (.int .i64) (.pair (.int .i64) (.slice (.int .u8))))))))) l) : ∀ x ∈ l, Bytes (byt x) ∧ (byt x).length ≤ 140737488351232 := by
  intro x hx
  have q : K.ok (.pair (.int .i64) (.pair (.int .i64) (.pair (.int .i64) (.pair (.int .i64) (.pair (.int .i64) (.pair (.int .i64) (.slice (.int .u8)))))))) x := h.2 x hx
  have q2 : K.ok (.slice (.int .u8)) (byt x) := q.2.2.2.2.2.2
  refine ⟨ok_bytes q2, ?_⟩
  have q3 : (byt x).length * 1 ≤ 140737488351232 := q2.1
  omega
theorem rights_loop (l : List Stp) (hl : l.length ≤ 100000) : ∀ (d i : Nat) (hi : i + d = l.length), Ev (fun n => f9_broughamlaw25_ScriptWrites_L8 n l (i : Int)) (fun w => w = .inr ())
  | 0, i, hi => by
    apply Ev.succ
    unfold f9_broughamlaw25_ScriptWrites_L8
    exact Ev.neg (by simp only [decide_eq_true_eq]; omega) (Ev.some rfl)
  | d + 1, i, hi => by
    have ih := rights_loop l hl d (i + 1) (by omega)
    apply Ev.succ
    unfold f9_broughamlaw25_ScriptWrites_L8
    rw [i64_id (e := (i : Int) + 1) (by omega) (by omega), Int.toNat_natCast]
    generalize l.getD i (0, (0, (0, (0, (0, (0, [])))))) = x
    refine Ev.pos (by simp only [decide_eq_true_eq]; omega) (Ev.guard (by omega) (Ev.bind (right_ev x) ?_))
    rintro _ rfl
    refine Ev.guard (by omega) (Ev.bind (refright_ev x) ?_)
    rintro _ rfl
    exact Ev.neg (by simp) ih
theorem ScriptWrites (l : List (Int × Int × Int × Int × Int × Int × List Int)) (h0 : K.ok (.slice (.pair (.int .i64) (.pair (.int .i64) (.pair (.int .i64) (.pair (.int .i64) (.pair (.int .i64) (.pair (.int .i64) (.slice (.int .u8))))))))) l) (m : List (Int × Int × Int × Int × Int × Int × List Int)) (h1 : K.ok (.slice (.pair (.int .i64) (.pair (.int .i64) (.pair (.int .i64) (.pair (.int .i64) (.pair (.int .i64) (.pair (.int .i64) (.slice (.int .u8))))))))) m) : ∃ n, f9_broughamlaw25_ScriptWrites n l m = some true := by
  apply Ev.true
  have hl := stp_ok h0
  have hm := stp_ok h1
  unfold f9_broughamlaw25_ScriptWrites
  refine Ev.bind (great_ev l (fun x hx => (hl x hx).2)) ?_
  rintro _ (rfl | ⟨rfl, h6, h4⟩)
  · exact Ev.pos rfl (Ev.some rfl)
  refine Ev.neg (by decide) (Ev.bind (great_ev m (fun x hx => (hm x hx).2)) ?_)
  rintro _ (rfl | ⟨rfl, k6, k4⟩)
  · exact Ev.pos rfl (Ev.some rfl)
  have hg : ∀ x ∈ l, Good x := fun x hx => ⟨(hl x hx).1, by have := h4 x hx; omega⟩
  refine Ev.neg (by decide) (Ev.bind (text_ev2 l hg) ?_)
  rintro _ rfl
  refine Ev.bind (reftextT_ev l hg) ?_
  rintro _ rfl
  refine Ev.neg (by simp) (Ev.neg (by simp) (Ev.bind (psame_ev l m (by omega)) ?_))
  rintro _ rfl
  refine Ev.bind (refsame_ev l m (by omega)) ?_
  rintro _ rfl
  refine Ev.neg (by simp) (Ev.bind (rights_loop l (by omega) l.length 0 (by omega)) ?_)
  rintro _ rfl
  exact Ev.bind alive_ev (fun r hr => Ev.some hr)
end Go.Proofs.YtakamchmiakicaaDoorF25
