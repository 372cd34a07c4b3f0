/- A filter's text, its pieces, and that it is read again as the filter that was written: of the functions that text F35b prints. Conditions: none. -/
import Derived.Test.YtakamchmiakicaaDoorPureLib35b
namespace Go.Proofs.YtakamchmiakicaaDoorF35b
open Go Zed Go.Proofs.YtakamchmiakicaaDoorLeaf
set_option linter.unusedVariables false
set_option linter.unusedSimpArgs false
set_option maxRecDepth 100000

instance instWord (w : List UInt8) : Decidable (Word w) := inferInstanceAs (Decidable (w ≠ [] ∧ (32 : UInt8) ∉ w ∧ (35 : UInt8) ∉ w))
def PcIs (T : List UInt8) (p : List (List UInt8)) : Prop := (∀ r, pc [] (T ++ 32 :: r) = p ++ pc [] r) ∧ pc [] T = p
theorem PcIs.word {w : List UInt8} (h : Word w) : PcIs w [w] := by
  have e : emit w = [w] := by unfold emit; rw [if_neg h.1]
  refine ⟨fun r => ?_, ?_⟩
  · rw [pc_word w [] _ h.2.1 h.2.2, List.nil_append, pc, if_neg (by decide), if_pos rfl, e]
  · have := pc_word w [] [] h.2.1 h.2.2
    rw [List.append_nil, List.nil_append] at this
    rw [this]; exact e
theorem PcIs.app {T U : List UInt8} {p q : List (List UInt8)} (h : PcIs T p) (k : PcIs U q) : PcIs (T ++ 32 :: U) (p ++ q) :=
  ⟨fun r => by rw [List.append_assoc, List.cons_append, h.1, k.1, List.append_assoc], by rw [h.1, k.2]⟩
def headT (o : Int) : BA := if o = 3 then ⟨#[112, 111, 114, 116, 32]⟩ else if o = 4 then ⟨#[115, 114, 99, 32]⟩ else if o = 5 then ⟨#[100, 115, 116, 32]⟩ else if o = 6 then ⟨#[104, 97, 115, 32]⟩ else ⟨#[108, 111, 110, 103, 32]⟩
def flagT (k : Int) : BA := if k = 1 then tSyn else if k = 2 then tAck else tRst
def leafT (o k : Int) : BA := if o = 1 then tAll else if o = 11 then tEmpty else if o = 2 then flagT k else headT o ++ textB k
def wordT (o : Int) : BA := if o = 3 then tPort else if o = 4 then tSrc else if o = 5 then tDst else if o = 6 then tHas else tLong
def leafK (o k : Int) : List BA := if o = 1 then [tAll] else if o = 11 then [tEmpty] else if o = 2 then [flagT k] else [wordT o, textB k]
def tx : PT → BA
  | .nil => ⟨#[]⟩
  | .node o k a b => if o = 8 then (⟨#[40, 32, 110, 111, 116, 32]⟩ ++ tx a) ++ ⟨#[32, 41]⟩
    else if o = 9 then (((⟨#[40, 32]⟩ ++ tx a) ++ ⟨#[32, 97, 110, 100, 32]⟩) ++ tx b) ++ ⟨#[32, 41]⟩
    else if o = 10 then (((⟨#[40, 32]⟩ ++ tx a) ++ ⟨#[32, 111, 114, 32]⟩) ++ tx b) ++ ⟨#[32, 41]⟩
    else leafT o k
def tk : PT → List BA
  | .nil => []
  | .node o k a b => if o = 8 then tOpen :: ((tNot :: tk a) ++ [tClose])
    else if o = 9 then tOpen :: ((tk a ++ tAnd :: tk b) ++ [tClose])
    else if o = 10 then tOpen :: ((tk a ++ tOr :: tk b) ++ [tClose])
    else leafK o k
theorem lvs_neg {a : PT} (h : Tr a) : lvs (.node 8 0 a .nil) = lvs a := by cases h <;> simp [lvs]
theorem lvs_two {o : Int} {a b : PT} (h : Tr a) : lvs (.node o 0 a b) = (lvs a && lvs b) := by cases h <;> simp [lvs]
theorem dpt_neg (a : PT) : dpt (.node 8 0 a .nil) = dpt a + 1 := by simp [dpt]
theorem dpt_two (o : Int) (a b : PT) : dpt (.node o 0 a b) = max (dpt a) (dpt b) + 1 := rfl
theorem textB_word (k : Int) (h : 0 ≤ k ∧ k ≤ 2147483647) : Word (D (textB k)) ∧ (textB k).size ≤ 20 := by
  have e : D (textB k) = textL k.toNat := rfl
  obtain ⟨⟨h1, h2, h3⟩, _⟩ := textL_canon k.toNat (by omega)
  refine ⟨⟨by rw [e]; exact h2, fun q => ?_, fun q => ?_⟩, ?_⟩
  · have := h1 32 (by rw [← e]; exact q); revert this; decide
  · have := h1 35 (by rw [← e]; exact q); revert this; decide
  · rw [sz_D, e]; exact textF_len 20 _
theorem leafS_num {o k : Int} (h : Leaf o) (hs : leafS o k = true) (h1 : o ≠ 1) (h2 : o ≠ 11) (h3 : o ≠ 2) : 0 ≤ k ∧ k ≤ 2147483647 := by
  unfold leafS at hs
  rw [if_neg (by omega), if_neg h3] at hs
  split at hs
  · have := of_decide_eq_true hs; omega
  · split at hs <;> (have := of_decide_eq_true hs; omega)
theorem leaf_pc {o k : Int} (h : Leaf o) (hs : leafS o k = true) : PcIs (D (leafT o k)) ((leafK o k).map D) ∧ 1 ≤ (leafT o k).size ∧ (leafT o k).size ≤ 30 := by
  unfold leafT leafK
  by_cases h1 : o = 1
  · rw [if_pos h1, if_pos h1]; exact ⟨PcIs.word (by decide), by decide, by decide⟩
  rw [if_neg h1, if_neg h1]
  by_cases h2 : o = 11
  · rw [if_pos h2, if_pos h2]; exact ⟨PcIs.word (by decide), by decide, by decide⟩
  rw [if_neg h2, if_neg h2]
  by_cases h3 : o = 2
  · rw [if_pos h3, if_pos h3]
    unfold flagT
    repeat' split
    all_goals exact ⟨PcIs.word (by decide), by decide, by decide⟩
  rw [if_neg h3, if_neg h3]
  obtain ⟨w1, w2⟩ := textB_word k (leafS_num h hs h1 h2 h3)
  have key : ∀ (u v : BA), Word (D v) → D u = D v ++ [32] → u.size ≤ 5 → PcIs (D (u ++ textB k)) ([v, textB k].map D) ∧ 1 ≤ (u ++ textB k).size ∧ (u ++ textB k).size ≤ 30 := by
    intro u v hv hu hz
    refine ⟨?_, ?_, ?_⟩
    · rw [D_app, hu, List.append_assoc]
      exact (PcIs.word hv).app (PcIs.word w1)
    · rw [sz_app, sz_D u, hu]; simp; omega
    · rw [sz_app]; omega
  unfold headT wordT
  repeat' split
  all_goals exact key _ _ (by decide) (by decide) (by decide)
theorem tx_is : ∀ {t : PT} (h : Tr t) (hl : lvs t = true), PcIs (D (tx t)) ((tk t).map D) ∧ 1 ≤ (tx t).size ∧ (tx t).size + 20 ≤ 60 * 2 ^ dpt t := by
  intro t h
  induction h with
  | @leaf o k h =>
    intro hl
    have e : lvs (.node o k .nil .nil) = leafS o k := by simp [lvs]
    rw [e] at hl
    obtain ⟨h1, h2, h3⟩ := leaf_pc h hl
    have e1 : tx (.node o k .nil .nil) = leafT o k := by unfold Leaf at h; rw [tx, if_neg (by omega), if_neg (by omega), if_neg (by omega)]
    have e2 : tk (.node o k .nil .nil) = leafK o k := by unfold Leaf at h; rw [tk, if_neg (by omega), if_neg (by omega), if_neg (by omega)]
    rw [e1, e2]
    refine ⟨h1, h2, ?_⟩
    rw [show dpt (.node o k .nil .nil) = 1 from rfl]; omega
  | @neg a h ih =>
    intro hl
    rw [lvs_neg h] at hl
    obtain ⟨i1, i2, i3⟩ := ih hl
    have e1 : tx (.node 8 0 a .nil) = (⟨#[40, 32, 110, 111, 116, 32]⟩ ++ tx a) ++ ⟨#[32, 41]⟩ := by rw [tx, if_pos rfl]
    have e2 : tk (.node 8 0 a .nil) = tOpen :: ((tNot :: tk a) ++ [tClose]) := by rw [tk, if_pos rfl]
    rw [e1, e2]
    refine ⟨?_, ?_, ?_⟩
    · have q := (PcIs.word (w := D tOpen) (by decide)).app ((PcIs.word (w := D tNot) (by decide)).app (i1.app (PcIs.word (w := D tClose) (by decide))))
      rw [D_app, D_app]
      have a1 : (tOpen :: ((tNot :: tk a) ++ [tClose])).map D = [D tOpen] ++ ([D tNot] ++ ((tk a).map D ++ [D tClose])) := by simp
      rw [a1]
      have a2 : D (⟨#[40, 32, 110, 111, 116, 32]⟩ : BA) ++ D (tx a) ++ D (⟨#[32, 41]⟩ : BA) = D tOpen ++ 32 :: (D tNot ++ 32 :: (D (tx a) ++ 32 :: D tClose)) := by simp [D]
      rw [a2]; exact q
    · rw [sz_app, sz_app]; omega
    · rw [sz_app, sz_app, dpt_neg, Nat.pow_succ, show (⟨#[40, 32, 110, 111, 116, 32]⟩ : BA).size = 6 from rfl, show (⟨#[32, 41]⟩ : BA).size = 2 from rfl]; omega
  | @two o a b ho h k ih1 ih2 =>
    intro hl
    rw [lvs_two h, Bool.and_eq_true] at hl
    obtain ⟨i1, i2, i3⟩ := ih1 hl.1
    obtain ⟨j1, j2, j3⟩ := ih2 hl.2
    have p1 : 2 ^ dpt a ≤ 2 ^ max (dpt a) (dpt b) := Nat.pow_le_pow_right (by omega) (by omega)
    have p2 : 2 ^ dpt b ≤ 2 ^ max (dpt a) (dpt b) := Nat.pow_le_pow_right (by omega) (by omega)
    rcases ho with rfl | rfl
    · have e1 : tx (.node 9 0 a b) = (((⟨#[40, 32]⟩ ++ tx a) ++ ⟨#[32, 97, 110, 100, 32]⟩) ++ tx b) ++ ⟨#[32, 41]⟩ := by rw [tx, if_neg (by omega), if_pos rfl]
      have e2 : tk (.node 9 0 a b) = tOpen :: ((tk a ++ tAnd :: tk b) ++ [tClose]) := by rw [tk, if_neg (by omega), if_pos rfl]
      rw [e1, e2]
      refine ⟨?_, ?_, ?_⟩
      · have q := (PcIs.word (w := D tOpen) (by decide)).app (i1.app ((PcIs.word (w := D tAnd) (by decide)).app (j1.app (PcIs.word (w := D tClose) (by decide)))))
        rw [D_app, D_app, D_app, D_app]
        have a1 : (tOpen :: ((tk a ++ tAnd :: tk b) ++ [tClose])).map D = [D tOpen] ++ ((tk a).map D ++ ([D tAnd] ++ ((tk b).map D ++ [D tClose]))) := by simp
        rw [a1]
        have a2 : D (⟨#[40, 32]⟩ : BA) ++ D (tx a) ++ D (⟨#[32, 97, 110, 100, 32]⟩ : BA) ++ D (tx b) ++ D (⟨#[32, 41]⟩ : BA) = D tOpen ++ 32 :: (D (tx a) ++ 32 :: (D tAnd ++ 32 :: (D (tx b) ++ 32 :: D tClose))) := by simp [D]
        rw [a2]; exact q
      · rw [sz_app, sz_app, sz_app, sz_app]; omega
      · rw [sz_app, sz_app, sz_app, sz_app, dpt_two, Nat.pow_succ, show (⟨#[40, 32]⟩ : BA).size = 2 from rfl, show (⟨#[32, 97, 110, 100, 32]⟩ : BA).size = 5 from rfl, show (⟨#[32, 41]⟩ : BA).size = 2 from rfl]; omega
    · have e1 : tx (.node 10 0 a b) = (((⟨#[40, 32]⟩ ++ tx a) ++ ⟨#[32, 111, 114, 32]⟩) ++ tx b) ++ ⟨#[32, 41]⟩ := by rw [tx, if_neg (by omega), if_neg (by omega), if_pos rfl]
      have e2 : tk (.node 10 0 a b) = tOpen :: ((tk a ++ tOr :: tk b) ++ [tClose]) := by rw [tk, if_neg (by omega), if_neg (by omega), if_pos rfl]
      rw [e1, e2]
      refine ⟨?_, ?_, ?_⟩
      · have q := (PcIs.word (w := D tOpen) (by decide)).app (i1.app ((PcIs.word (w := D tOr) (by decide)).app (j1.app (PcIs.word (w := D tClose) (by decide)))))
        rw [D_app, D_app, D_app, D_app]
        have a1 : (tOpen :: ((tk a ++ tOr :: tk b) ++ [tClose])).map D = [D tOpen] ++ ((tk a).map D ++ ([D tOr] ++ ((tk b).map D ++ [D tClose]))) := by simp
        rw [a1]
        have a2 : D (⟨#[40, 32]⟩ : BA) ++ D (tx a) ++ D (⟨#[32, 111, 114, 32]⟩ : BA) ++ D (tx b) ++ D (⟨#[32, 41]⟩ : BA) = D tOpen ++ 32 :: (D (tx a) ++ 32 :: (D tOr ++ 32 :: (D (tx b) ++ 32 :: D tClose))) := by simp [D]
        rw [a2]; exact q
      · rw [sz_app, sz_app, sz_app, sz_app]; omega
      · rw [sz_app, sz_app, sz_app, sz_app, dpt_two, Nat.pow_succ, show (⟨#[40, 32]⟩ : BA).size = 2 from rfl, show (⟨#[32, 111, 114, 32]⟩ : BA).size = 4 from rfl, show (⟨#[32, 41]⟩ : BA).size = 2 from rfl]; omega
theorem tx_pieces {t : PT} (h : Tr t) (hl : lvs t = true) : pieceB (tx t) = tk t := by
  unfold pieceB
  rw [(tx_is h hl).1.2, List.map_map]
  conv => rhs; rw [← List.map_id (tk t)]
  exact List.map_congr_left fun a _ => unw_D a
theorem leaf_plain {o k : Int} (h : Leaf o) (hs : leafS o k = true) : plainS (leafK o k) = (.node o k .nil .nil, [], false) := by
  have num : ∀ (w : BA) (op : Int), 0 ≤ k ∧ k ≤ 2147483647 → numS op [textB k] = (.node op k .nil .nil, [], false) := by
    intro w op hk
    have e : (textB k).data.toList = textL k.toNat := rfl
    show (PT.node op (parseR (textB k).data.toList).1 .nil .nil, ([] : List BA), (parseR (textB k).data.toList).2 != 0) = _
    rw [e, parseR_text (by omega)]
    have : ((k.toNat : Nat) : Int) = k := by omega
    rw [this]; rfl
  have hn := leafS_num h hs
  unfold leafS at hs
  rcases h with rfl | rfl | rfl | rfl | rfl | rfl | rfl | rfl
  · have : k = 0 := by simpa using hs
    subst this; rfl
  · have : k = 1 ∨ k = 2 ∨ k = 4 := by simpa using hs
    rcases this with rfl | rfl | rfl <;> rfl
  all_goals first
    | exact num tPort _ (hn (by decide) (by decide) (by decide))
    | (have : k = 0 := by simpa using hs
       subst this; rfl)
theorem tk_reads : ∀ {t : PT} (h : Tr t) (hl : lvs t = true) (L : Nat) (hL : 2 * dpt t ≤ L), GOne L (tk t) t := by
  intro t h
  induction h with
  | @leaf o k h =>
    intro hl L hL
    have e : lvs (.node o k .nil .nil) = leafS o k := by simp [lvs]
    rw [e] at hl
    have e2 : tk (.node o k .nil .nil) = leafK o k := by unfold Leaf at h; rw [tk, if_neg (by omega), if_neg (by omega), if_neg (by omega)]
    rw [show dpt (.node o k .nil .nil) = 1 from rfl] at hL
    obtain ⟨L, rfl⟩ : ∃ M, L = M + 1 := ⟨L - 1, by omega⟩
    rw [e2]; exact .plain (leaf_plain h hl)
  | @neg a h ih =>
    intro hl L hL
    rw [lvs_neg h] at hl
    rw [dpt_neg] at hL
    obtain ⟨L, rfl⟩ : ∃ M, L = M + 2 := ⟨L - 2, by omega⟩
    have e2 : tk (.node 8 0 a .nil) = tOpen :: ((tNot :: tk a) ++ [tClose]) := by rw [tk, if_pos rfl]
    rw [e2]
    exact .par (.and (.one (.neg (ih hl L (by omega)))))
  | @two o a b ho h k ih1 ih2 =>
    intro hl L hL
    rw [lvs_two h, Bool.and_eq_true] at hl
    rw [dpt_two] at hL
    obtain ⟨L, rfl⟩ : ∃ M, L = M + 1 := ⟨L - 1, by omega⟩
    rcases ho with rfl | rfl
    · have e2 : tk (.node 9 0 a b) = tOpen :: ((tk a ++ tAnd :: tk b) ++ [tClose]) := by rw [tk, if_neg (by omega), if_pos rfl]
      rw [e2]
      exact .par (.and (.and (.one (ih1 hl.1 L (by omega))) (ih2 hl.2 L (by omega))))
    · have e2 : tk (.node 10 0 a b) = tOpen :: ((tk a ++ tOr :: tk b) ++ [tClose]) := by rw [tk, if_neg (by omega), if_neg (by omega), if_pos rfl]
      rw [e2]
      exact .par (.or (.and (.one (ih1 hl.1 L (by omega)))) (.one (ih2 hl.2 L (by omega))))
/-- What is written is read as it was. -/
theorem parse_tx {t : PT} (h : Tr t) (hg : Good t) : Ev (fun n => f21_filter_Parse n (tx t)) (fun r => r = if (tx t).size ≤ 4096 then (t, true) else (.nil, false)) := by
  have hg0 := hg
  unfold Good at hg0
  simp only [Bool.and_eq_true, decide_eq_true_eq] at hg0
  have gor : GOr 64 (pieceB (tx t)) t := by rw [tx_pieces h hg0.2]; exact .and (.one (tk_reads h hg0.2 64 (by omega)))
  refine (parseT_ev (tx t)).mono fun r hr => ?_
  by_cases c : (tx t).size ≤ 4096
  · rw [if_pos c]
    rcases hr with ⟨_, hr⟩ | ⟨u, hu, rfl⟩
    · exact absurd ⟨c, gor, hg⟩ (hr t)
    · rw [gor_one (L := 64) gor hu.2.1 (by decide) (small_piece _ (by omega))]
  · rw [if_neg c]
    rcases hr with ⟨hr, _⟩ | ⟨u, hu, rfl⟩
    · exact hr
    · exact absurd hu.1 c
end Go.Proofs.YtakamchmiakicaaDoorF35b
