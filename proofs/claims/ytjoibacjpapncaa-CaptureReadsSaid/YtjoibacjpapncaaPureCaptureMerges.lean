/- CaptureMerges: two captures as one, by when their records were seen: of the functions that text F34 prints. Conditions: none. -/
import Derived.Test.YtjoibacjpapncaaF34
import Derived.Test.YtjoibacjpapncaaZedPb
namespace Go.Proofs.YtjoibacjpapncaaF34
open Go Zed
set_option linter.unusedVariables false
set_option linter.unusedSimpArgs false

theorem alive_at (m : Nat) : f27_broughamlaw34_alive (m + 40) = some true := by kernel_rfl
theorem alive_ev : Ev (fun n => f27_broughamlaw34_alive n) (fun r => r = true) := Ev.at 40 alive_at rfl

abbrev R := Int × Int × Int × List Int
abbrev S := Int × Int × Int × ByteArray
abbrev KR : K := .pair (.int .i64) (.pair (.int .i64) (.pair (.int .i64) (.slice (.int .u8))))
def dR : R := (0, (0, (0, [])))
def dS : S := (0, (0, (0, ByteArray.empty)))
def conv (r : R) : S := (r.1, r.2.1, r.2.2.1, strOfNums r.2.2.2)

theorem take_snoc {α : Type} (d : α) (l : List α) {i : Nat} (h : i < l.length) : l.take (i + 1) = l.take i ++ [l.getD i d] := by
  rw [List.take_succ_eq_append_getElem h]
  simp [List.getD, List.getElem?_eq_getElem h]
theorem nx {i : Nat} (h : i < 140737488355328) : IntKind.wrap .i64 ((i : Int) + 1) = ((i + 1 : Nat) : Int) := by rw [i64_id] <;> omega

theorem plainLoop (l : List R) (hl : l.length ≤ 3000000000000) : ∀ (m i : Nat), i + m = l.length → Ev (fun n => f22_broughamlaw34_plain_L3 n l ((l.take i).map conv) (i : Int)) (fun r => r = l.map conv)
  | 0, i, hi => by
    apply Ev.succ
    simp only [f22_broughamlaw34_plain_L3]
    rw [List.take_of_length_le (by omega)]
    exact Ev.neg (by simp; omega) (Ev.some rfl)
  | m + 1, i, hi => by
    apply Ev.succ
    simp only [f22_broughamlaw34_plain_L3]
    refine Ev.pos (by simp; omega) (Ev.guard (by omega) (Ev.guard (by omega) (Ev.guard (by omega) (Ev.guard (by omega) (Ev.guard ?_ ?_)))))
    · simp only [List.length_map, List.length_take, List.length_cons, List.length_nil, maxLen]; omega
    · rw [nx (by omega), Int.toNat_natCast]
      have e : (l.take i).map conv ++ [conv (l.getD i dR)] = (l.take (i + 1)).map conv := by
        rw [take_snoc dR l (by omega), List.map_append]; rfl
      have := plainLoop l hl m (i + 1) (by omega)
      rw [← e] at this
      exact this
theorem plain_is (l : List R) (hl : l.length ≤ 3000000000000) : Ev (fun n => f22_broughamlaw34_plain n l) (fun r => r = l.map conv) := by
  unfold f22_broughamlaw34_plain
  refine Ev.bind (plainLoop l hl l.length 0 (by omega)) ?_
  intro r hr
  exact Ev.some hr

def tot : List R → Nat
  | [] => 0
  | r :: l => r.2.2.2.length + tot l
theorem tot_append : ∀ a b : List R, tot (a ++ b) = tot a + tot b
  | [], b => by simp [tot]
  | x :: a, b => by simp only [List.cons_append, tot, tot_append a b]; omega
theorem bytes_le {l : List R} (h : K.ok (.slice KR) l) {r : R} (hr : r ∈ l) : r.2.2.2.length ≤ 140737488351232 := len_i64 (h.2 r hr).2.2.2 (by decide)
theorem bytes_at {l : List R} (h : K.ok (.slice KR) l) {i : Nat} (hi : i < l.length) : (l.getD i dR).2.2.2.length ≤ 140737488351232 := bytes_le h (getD_mem hi dR)
theorem greatLoop (l : List R) (h : K.ok (.slice KR) l) : ∀ (m i : Nat), i + m = min l.length 1100 → tot (l.take i) ≤ 20000 → Ev (fun n => f19_broughamlaw34_great_L3 n l ((tot (l.take i) : Nat) : Int) (i : Int)) (fun r => r = .inl true ∨ (r = .inr l ∧ (l.length ≤ 1100 → tot l ≤ 20000)))
  | 0, i, hi, ht => by
    apply Ev.succ
    simp only [f19_broughamlaw34_great_L3]
    have hr : (l.length ≤ 1100 → tot l ≤ 20000) := by
      intro hl
      rwa [List.take_of_length_le (by omega)] at ht
    exact Ev.ite (fun a => Ev.neg (by simp only [decide_eq_true_eq] at a ⊢; omega) (Ev.some (.inr ⟨rfl, hr⟩))) (fun _ => Ev.some (.inr ⟨rfl, hr⟩))
  | m + 1, i, hi, ht => by
    apply Ev.succ
    simp only [f19_broughamlaw34_great_L3]
    have hi2 : i < l.length := by omega
    have hb := bytes_at h hi2
    have e : tot (l.take (i + 1)) = tot (l.take i) + (l.getD i dR).2.2.2.length := by rw [take_snoc dR l hi2, tot_append]; simp [tot]
    have e2 : IntKind.wrap .i64 (((tot (l.take i) : Nat) : Int) + (((l.getD ((i : Int)).toNat dR).2.2.2.length : Nat) : Int)) = ((tot (l.take (i + 1)) : Nat) : Int) := by
      rw [Int.toNat_natCast, e, i64_id] <;> omega
    refine Ev.pos (by simp; omega) (Ev.pos (by simp; omega) (Ev.guard (by omega) (Ev.ite (fun _ => Ev.some (.inl rfl)) fun a => ?_)))
    have a2 : ¬ IntKind.wrap .i64 (((tot (l.take i) : Nat) : Int) + (((l.getD ((i : Int)).toNat dR).2.2.2.length : Nat) : Int)) > 20000 := by
      intro c; exact a (decide_eq_true c)
    rw [e2] at a2
    have := greatLoop l h m (i + 1) (by omega) (by omega)
    rw [← e2] at this
    rw [nx (by omega)]
    exact this
theorem great_is (l : List R) (h : K.ok (.slice KR) l) : Ev (fun n => f19_broughamlaw34_great n l) (fun r => r = true ∨ (r = false ∧ l.length ≤ 1100 ∧ tot l ≤ 20000)) := by
  unfold f19_broughamlaw34_great
  refine Ev.bind (greatLoop l h (min l.length 1100) 0 (by omega) (by simp [tot])) ?_
  rintro _ (rfl | ⟨rfl, h2⟩)
  · exact Ev.some (.inl rfl)
  · by_cases hl : l.length ≤ 1100
    · exact Ev.some (.inr ⟨by simp; omega, hl, h2 hl⟩)
    · exact Ev.some (.inl (by simp; omega))

/-! Merged. -/
def mrg : Nat → List R → List R → List R
  | 0, a, b => a ++ b
  | f + 1, a, b => match a, b with
    | [], b => b
    | a, [] => a
    | x :: a, y :: b => if x.1 ≤ y.1 then x :: mrg f a (y :: b) else y :: mrg f (x :: a) b
theorem mrg_nil : ∀ (f : Nat) (a : List R), mrg f a [] = a
  | 0, a => by simp [mrg]
  | f + 1, [] => rfl
  | f + 1, x :: a => rfl
theorem nil_mrg : ∀ (f : Nat) (b : List R), mrg f [] b = b
  | 0, b => by simp [mrg]
  | f + 1, b => by cases b <;> rfl
theorem mrg_len : ∀ (f : Nat) (a b : List R), (mrg f a b).length = a.length + b.length
  | 0, a, b => by simp [mrg]
  | f + 1, [], b => by rw [nil_mrg]; simp
  | f + 1, x :: a, [] => by rw [mrg_nil]; simp
  | f + 1, x :: a, y :: b => by
    rw [mrg]; split
    · simp [mrg_len f]; omega
    · simp [mrg_len f]; omega

theorem copied_is (r : R) (h : r.2.2.2.length ≤ 140737488351232) : f95_capture_copied r.1 r.2.1 r.2.2.1 r.2.2.2 = some r := by
  unfold f95_capture_copied
  rw [if_pos (by simp only [maxLen]; omega)]
theorem drop1 (x : R) (a : List R) : ((x :: a).take (x :: a).length).drop 1 = a := by rw [List.take_length]; rfl
theorem cut1 (x : R) (a : List R) : cutOk (x :: a).length (some 1) none none := by simp [cutOk]; omega
theorem mergeLoop : ∀ (f : Nat) (a b out : List R), a.length + b.length ≤ f → out.length + f ≤ 1000 → (∀ r ∈ a, r.2.2.2.length ≤ 140737488351232) → (∀ r ∈ b, r.2.2.2.length ≤ 140737488351232) →
    Ev (fun n => f42_capture_Merge_L2 n a b out) (fun r => r = out ++ mrg f a b)
  | f, [], [], out, h, ho, ha, hb => by
    apply Ev.succ
    simp only [f42_capture_Merge_L2]
    rw [nil_mrg, List.append_nil]
    exact Ev.neg (by simp) (Ev.neg (by simp) (Ev.some rfl))
  | 0, x :: a, b, out, h, ho, ha, hb => by simp at h
  | 0, [], y :: b, out, h, ho, ha, hb => by simp at h
  | f + 1, [], y :: b, out, h, ho, ha, hb => by
    apply Ev.succ
    simp only [f42_capture_Merge_L2]
    simp only [List.length_cons, List.length_nil] at h
    refine Ev.neg (by simp) (Ev.pos (by simp) (Ev.neg (by simp; omega) (Ev.neg (by simp) (Ev.guard (by simp) ?_))))
    refine Ev.bind (Ev.of (copied_is y (hb y (by simp))) rfl) ?_
    rintro _ rfl
    refine Ev.guard (by simp only [List.length_cons, List.length_nil, maxLen]; omega) (Ev.guard (cut1 y b) ?_)
    rw [drop1]
    have := mergeLoop f [] b (out ++ [y]) (by simp; omega) (by simp; omega) ha (fun r hr => hb r (by simp [hr]))
    rw [nil_mrg] at this ⊢
    simpa using this
  | f + 1, x :: a, [], out, h, ho, ha, hb => by
    apply Ev.succ
    simp only [f42_capture_Merge_L2]
    simp only [List.length_cons, List.length_nil] at h
    refine Ev.pos (by simp) (Ev.pos (by simp) (Ev.guard (by simp) ?_))
    refine Ev.bind (Ev.of (copied_is x (ha x (by simp))) rfl) ?_
    rintro _ rfl
    refine Ev.guard (by simp only [List.length_cons, List.length_nil, maxLen]; omega) (Ev.guard (cut1 x a) ?_)
    rw [drop1]
    have := mergeLoop f a [] (out ++ [x]) (by simp; omega) (by simp; omega) (fun r hr => ha r (by simp [hr])) hb
    rw [mrg_nil] at this ⊢
    simpa using this
  | f + 1, x :: a, y :: b, out, h, ho, ha, hb => by
    apply Ev.succ
    simp only [f42_capture_Merge_L2]
    simp only [List.length_cons] at h
    rw [mrg]
    refine Ev.pos (by simp) (Ev.neg (by simp; omega) (Ev.pos (by simp) (Ev.guard (by simp) (Ev.guard (by simp) (Ev.ite (fun c => ?_) (fun c => ?_))))))
    · have c2 : x.1 ≤ y.1 := of_decide_eq_true c
      rw [if_pos c2]
      refine Ev.guard (by simp) ?_
      refine Ev.bind (Ev.of (copied_is x (ha x (by simp))) rfl) ?_
      rintro _ rfl
      refine Ev.guard (by simp only [List.length_cons, List.length_nil, maxLen]; omega) (Ev.guard (cut1 x a) ?_)
      rw [drop1]
      have := mergeLoop f a (y :: b) (out ++ [x]) (by simp; omega) (by simp; omega) (fun r hr => ha r (by simp [hr])) hb
      simpa using this
    · have c2 : ¬ x.1 ≤ y.1 := fun c2 => c (decide_eq_true c2)
      rw [if_neg c2]
      refine Ev.guard (by simp) ?_
      refine Ev.bind (Ev.of (copied_is y (hb y (by simp))) rfl) ?_
      rintro _ rfl
      refine Ev.guard (by simp only [List.length_cons, List.length_nil, maxLen]; omega) (Ev.guard (cut1 y b) ?_)
      rw [drop1]
      have := mergeLoop f (x :: a) b (out ++ [y]) (by simp; omega) (by simp; omega) ha (fun r hr => hb r (by simp [hr]))
      simpa using this

theorem get_cons {α : Type} {l : List α} {n : Nat} {x : α} {t : List α} (h : l.drop n = x :: t) (d : α) : n < l.length ∧ l.getD n d = x ∧ l.drop (n + 1) = t := by
  have h1 : n < l.length := by
    rcases Nat.lt_or_ge n l.length with h1 | h1
    · exact h1
    · rw [List.drop_eq_nil_of_le h1] at h; cases h
  rw [drop_cons h1 d] at h
  injection h with h2 h3
  exact ⟨h1, h2, h3⟩
theorem one_is (l : List R) {i : Nat} (h : i < l.length) : (l.take (i + 1)).drop i = [l.getD i dR] := by
  rw [take_snoc dR l h, List.drop_append_of_le_length (by simp; omega), List.drop_eq_nil_of_le (by simp; omega)]; rfl
theorem cut_one (l : List R) {i : Nat} (h : i < l.length) (hl : l.length ≤ 1000) : cutOk l.length (some (i : Int)) (some (IntKind.wrap .i64 ((i : Int) + 1))) (some (IntKind.wrap .i64 ((i : Int) + 1))) := by
  rw [nx (by omega)]; simp [cutOk]; omega
/-- The piece that holds one record, as the document's. -/
theorem one_plain (l : List R) {i : Nat} (h : i < l.length) (hl : l.length ≤ 1000) : Ev (fun n => f22_broughamlaw34_plain n ((l.take (IntKind.wrap .i64 ((i : Int) + 1)).toNat).drop ((i : Int)).toNat)) (fun r => r = [conv (l.getD i dR)]) := by
  rw [nx (by omega), Int.toNat_natCast, Int.toNat_natCast, one_is l h]
  exact plain_is [l.getD i dR] (by simp)
theorem same_rec (s : S) : (!(((s.1 : Int) == s.1) && (((s.2.1 : Int) == s.2.1) && (((s.2.2.1 : Int) == s.2.2.1) && (s.2.2.2.toList == s.2.2.2.toList))))) = false := by
  simp only [beq_self_eq_true, Bool.and_self, Bool.not_true]

theorem L6 (a b : List R) (m : List S) (hab : a.length ≤ 100 ∧ b.length ≤ 100) (x y : Int) : ∀ (f i k : Nat), (a.drop i).length + (b.drop k).length ≤ f → i ≤ a.length → k ≤ b.length → m.length = a.length + b.length → m.drop (i + k) = (mrg f (a.drop i) (b.drop k)).map conv →
    Ev (fun n => f8_broughamlaw34_CaptureMerges_L6 n a b m (i : Int) (k : Int) ((i + k : Nat) : Int) x y) (fun r => r = .inr (a, b, (a.length : Int), (b.length : Int), x, y))
  | f, i, k, hf, hi, hk, hm, hd => by
    apply Ev.succ
    simp only [f8_broughamlaw34_CaptureMerges_L6]
    by_cases hend : i = a.length ∧ k = b.length
    · obtain ⟨rfl, rfl⟩ := hend
      exact Ev.neg (by simp; omega) (Ev.some rfl)
    simp only [List.length_drop] at hf
    obtain ⟨f, rfl⟩ : ∃ g, f = g + 1 := ⟨f - 1, by omega⟩
    have hn : ((i + k : Nat) : Int) < ((m.length : Nat) : Int) := by omega
    have hn0 : (0 : Int) ≤ ((i + k : Nat) : Int) ∧ ((i + k : Nat) : Int) < ((m.length : Nat) : Int) := by omega
    have hs : ¬ ((IntKind.wrap .i64 ((i : Int) + (k : Int)) : Int) != ((i + k : Nat) : Int)) = true := by
      rw [show (i : Int) + (k : Int) = ((i + k : Nat) : Int) by omega, i64_id (by omega) (by omega)]; simp
    have e1 : IntKind.wrap .i64 (((i + k : Nat) : Int) + 1) = ((i + k + 1 : Nat) : Int) := nx (by omega)
    -- what is next of the first, and of the second
    have takeA : (hia : i < a.length) → (a.drop i = a.getD i dR :: a.drop (i + 1)) := fun hia => drop_cons hia dR
    have takeB : (hkb : k < b.length) → (b.drop k = b.getD k dR :: b.drop (k + 1)) := fun hkb => drop_cons hkb dR
    have goA : (hia : i < a.length) → mrg (f + 1) (a.drop i) (b.drop k) = a.getD i dR :: mrg f (a.drop (i + 1)) (b.drop k) →
        Ev (fun n => if (0 : Int) ≤ ((i + k : Nat) : Int) ∧ ((i + k : Nat) : Int) < (((m).length : Nat) : Int) then
          if cutOk a.length (some (i : Int)) (some (IntKind.wrap .i64 ((i : Int) + 1))) (some (IntKind.wrap .i64 ((i : Int) + 1))) then
          (f22_broughamlaw34_plain n ((a.take (IntKind.wrap .i64 ((i : Int) + 1)).toNat).drop ((i : Int)).toNat)).bind fun r =>
          if (0 : Int) ≤ 0 ∧ 0 < (((r).length : Nat) : Int) then
          if (!(((((m.getD ((i + k : Nat) : Int).toNat (0, (0, (0, ByteArray.empty)))).1) : Int) == ((r.getD 0 (0, (0, (0, ByteArray.empty)))).1)) && ((((((m.getD ((i + k : Nat) : Int).toNat (0, (0, (0, ByteArray.empty)))).2).1) : Int) == (((r.getD 0 (0, (0, (0, ByteArray.empty)))).2).1)) && (((((((m.getD ((i + k : Nat) : Int).toNat (0, (0, (0, ByteArray.empty)))).2).2).1) : Int) == ((((r.getD 0 (0, (0, (0, ByteArray.empty)))).2).2).1)) && (((((m.getD ((i + k : Nat) : Int).toNat (0, (0, (0, ByteArray.empty)))).2).2).2).toList == ((((r.getD 0 (0, (0, (0, ByteArray.empty)))).2).2).2).toList))))) = true then
            some (.inl false)
          else
            f8_broughamlaw34_CaptureMerges_L6 n a b m (IntKind.wrap .i64 ((i : Int) + 1)) (k : Int) (IntKind.wrap .i64 (((i + k : Nat) : Int) + 1)) x y
          else none
          else none
          else none) (fun r => r = .inr (a, b, (a.length : Int), (b.length : Int), x, y)) := by
      intro hia hmg
      rw [hmg, List.map_cons] at hd
      obtain ⟨_, g2, g3⟩ := get_cons hd dS
      refine Ev.guard hn0 (Ev.guard (cut_one a hia (by omega)) ?_)
      refine Ev.bind (one_plain a hia (by omega)) ?_
      rintro _ rfl
      refine Ev.guard ⟨Int.le_refl _, by simp⟩ (Ev.neg ?_ ?_)
      · rw [Int.toNat_natCast]
        show ¬ (!((((m.getD (i + k) dS).1 : Int) == (conv (a.getD i dR)).1) && ((((m.getD (i + k) dS).2.1 : Int) == (conv (a.getD i dR)).2.1) && ((((m.getD (i + k) dS).2.2.1 : Int) == (conv (a.getD i dR)).2.2.1) && ((m.getD (i + k) dS).2.2.2.toList == (conv (a.getD i dR)).2.2.2.toList))))) = true
        rw [g2, same_rec]
        simp
      · rw [e1, nx (by omega), show i + k + 1 = (i + 1) + k by omega]
        rw [show i + k + 1 = (i + 1) + k by omega] at g3
        exact L6 a b m hab x y f (i + 1) k (by simp only [List.length_drop]; omega) (by omega) hk hm g3
    have goB : (hkb : k < b.length) → mrg (f + 1) (a.drop i) (b.drop k) = b.getD k dR :: mrg f (a.drop i) (b.drop (k + 1)) →
        Ev (fun n => if (0 : Int) ≤ ((i + k : Nat) : Int) ∧ ((i + k : Nat) : Int) < (((m).length : Nat) : Int) then
          if cutOk b.length (some (k : Int)) (some (IntKind.wrap .i64 ((k : Int) + 1))) (some (IntKind.wrap .i64 ((k : Int) + 1))) then
          (f22_broughamlaw34_plain n ((b.take (IntKind.wrap .i64 ((k : Int) + 1)).toNat).drop ((k : Int)).toNat)).bind fun r =>
          if (0 : Int) ≤ 0 ∧ 0 < (((r).length : Nat) : Int) then
          if (!(((((m.getD ((i + k : Nat) : Int).toNat (0, (0, (0, ByteArray.empty)))).1) : Int) == ((r.getD 0 (0, (0, (0, ByteArray.empty)))).1)) && ((((((m.getD ((i + k : Nat) : Int).toNat (0, (0, (0, ByteArray.empty)))).2).1) : Int) == (((r.getD 0 (0, (0, (0, ByteArray.empty)))).2).1)) && (((((((m.getD ((i + k : Nat) : Int).toNat (0, (0, (0, ByteArray.empty)))).2).2).1) : Int) == ((((r.getD 0 (0, (0, (0, ByteArray.empty)))).2).2).1)) && (((((m.getD ((i + k : Nat) : Int).toNat (0, (0, (0, ByteArray.empty)))).2).2).2).toList == ((((r.getD 0 (0, (0, (0, ByteArray.empty)))).2).2).2).toList))))) = true then
            some (.inl false)
          else
            f8_broughamlaw34_CaptureMerges_L6 n a b m (i : Int) (IntKind.wrap .i64 ((k : Int) + 1)) (IntKind.wrap .i64 (((i + k : Nat) : Int) + 1)) x y
          else none
          else none
          else none) (fun r => r = .inr (a, b, (a.length : Int), (b.length : Int), x, y)) := by
      intro hkb hmg
      rw [hmg, List.map_cons] at hd
      obtain ⟨_, g2, g3⟩ := get_cons hd dS
      refine Ev.guard hn0 (Ev.guard (cut_one b hkb (by omega)) ?_)
      refine Ev.bind (one_plain b hkb (by omega)) ?_
      rintro _ rfl
      refine Ev.guard ⟨Int.le_refl _, by simp⟩ (Ev.neg ?_ ?_)
      · rw [Int.toNat_natCast]
        show ¬ (!((((m.getD (i + k) dS).1 : Int) == (conv (b.getD k dR)).1) && ((((m.getD (i + k) dS).2.1 : Int) == (conv (b.getD k dR)).2.1) && ((((m.getD (i + k) dS).2.2.1 : Int) == (conv (b.getD k dR)).2.2.1) && ((m.getD (i + k) dS).2.2.2.toList == (conv (b.getD k dR)).2.2.2.toList))))) = true
        rw [g2, same_rec]
        simp
      · rw [e1, nx (by omega), show i + k + 1 = i + (k + 1) by omega]
        rw [show i + k + 1 = i + (k + 1) by omega] at g3
        exact L6 a b m hab x y f i (k + 1) (by simp only [List.length_drop]; omega) hi (by omega) hm g3
    refine Ev.pos (by simp; omega) (Ev.ite (fun c => ?_) (fun c => ?_))
    · have c2 : k = b.length := by simp at c; omega
      have hia : i < a.length := by omega
      refine Ev.neg hs (Ev.neg (by simp; omega) (goA hia ?_))
      rw [c2, List.drop_length, mrg_nil, mrg_nil, takeA hia]
    · have hkb : k < b.length := by simp at c; omega
      refine Ev.ite (fun c1 => ?_) (fun c1 => ?_)
      · have hia : i < a.length := by simp at c1; omega
        refine Ev.guard (by omega) (Ev.guard (by omega) (Ev.neg hs (Ev.neg (by simp; omega) (Ev.ite (fun c3 => ?_) (fun c3 => ?_)))))
        · have c4 : (a.getD i dR).1 ≤ (b.getD k dR).1 := of_decide_eq_true c3
          refine goA hia ?_
          rw [takeA hia, takeB hkb, mrg, if_pos c4]
        · have c4 : ¬ (a.getD i dR).1 ≤ (b.getD k dR).1 := fun c4 => c3 (decide_eq_true c4)
          refine goB hkb ?_
          rw [takeA hia, takeB hkb, mrg, if_neg c4]
      · have hia : i = a.length := by simp at c1; omega
        refine Ev.neg hs (Ev.pos (by simp; omega) (Ev.neg (by simp; omega) (goB hkb ?_)))
        rw [hia, List.drop_length, nil_mrg, nil_mrg, takeB hkb]

/-! Those of a time. -/
def inT (x y : Int) (r : R) : Bool := decide (r.1 ≥ x) && decide (r.1 < y)
def flt (x y : Int) (l : List R) : List R := l.filter (inT x y)
theorem flt_snoc (x y : Int) (l : List R) {i : Nat} (h : i < l.length) : flt x y (l.take (i + 1)) = flt x y (l.take i) ++ (if inT x y (l.getD i dR) = true then [l.getD i dR] else []) := by
  rw [take_snoc dR l h]; unfold flt; rw [List.filter_append]
  generalize l.getD i dR = o
  cases h2 : inT x y o <;> simp [List.filter, h2]
theorem flt_len (x y : Int) (l : List R) : (flt x y l).length ≤ l.length := List.length_filter_le _ _
theorem L20 (a b : List R) (i k : Int) (ha : a.length ≤ 100) (x y : Int) : ∀ (m j : Nat), j + m = a.length → Ev (fun n => f8_broughamlaw34_CaptureMerges_L20 n a b i k ((flt x y (a.take j)).map conv) (j : Int) x y) (fun r => r = (a, b, i, k, (flt x y a).map conv, x, y))
  | 0, j, hj => by
    apply Ev.succ
    simp only [f8_broughamlaw34_CaptureMerges_L20]
    rw [show a.take j = a from List.take_of_length_le (by omega)]
    exact Ev.neg (by simp; omega) (Ev.some rfl)
  | m + 1, j, hj => by
    apply Ev.succ
    simp only [f8_broughamlaw34_CaptureMerges_L20]
    have hja : j < a.length := by omega
    have hr := L20 a b i k ha x y m (j + 1) (by omega)
    rw [flt_snoc x y a hja] at hr
    have hlen : (flt x y (a.take j)).length ≤ 100 := by
      have := flt_len x y (a.take j)
      rw [List.length_take] at this; omega
    rw [nx (by omega)]
    refine Ev.pos (by simp; omega) (Ev.guard (by omega) (Ev.ite (fun c => Ev.guard (by omega) (Ev.ite (fun d => ?_) (fun d => ?_))) (fun c => ?_)))
    · have hin : inT x y (a.getD j dR) = true := by unfold inT; rw [Bool.and_eq_true]; exact ⟨c, d⟩
      rw [if_pos hin] at hr
      refine Ev.guard (by have := cut_one a hja (by omega); rwa [nx (by omega)] at this) ?_
      have hp := one_plain a hja (by omega)
      rw [nx (by omega)] at hp
      refine Ev.bind hp ?_
      rintro _ rfl
      refine Ev.guard ⟨Int.le_refl _, by simp⟩ (Ev.guard ?_ ?_)
      · simp only [List.length_map, List.length_cons, List.length_nil, maxLen]; omega
      · rw [List.map_append] at hr
        exact hr
    · have hin : ¬ inT x y (a.getD j dR) = true := by unfold inT; rw [Bool.and_eq_true]; exact fun h => d h.2
      rw [if_neg hin, List.append_nil] at hr
      exact hr
    · have hin : ¬ inT x y (a.getD j dR) = true := by unfold inT; rw [Bool.and_eq_true]; exact fun h => c h.1
      rw [if_neg hin, List.append_nil] at hr
      exact hr
theorem betLoop (a : List R) (hok : K.ok (.slice KR) a) (ha : a.length ≤ 100) (x y : Int) : ∀ (m j : Nat), j + m = a.length → Ev (fun n => f43_capture_Between_L3 n x y (flt x y (a.take j)) a ((a.length : Nat) : Int) (j : Int)) (fun r => r = flt x y a)
  | 0, j, hj => by
    apply Ev.succ
    simp only [f43_capture_Between_L3]
    rw [List.take_of_length_le (by omega)]
    exact Ev.neg (by simp; omega) (Ev.some rfl)
  | m + 1, j, hj => by
    apply Ev.succ
    simp only [f43_capture_Between_L3]
    have hja : j < a.length := by omega
    have hr := betLoop a hok ha x y m (j + 1) (by omega)
    rw [flt_snoc x y a hja] at hr
    have hlen : (flt x y (a.take j)).length ≤ 100 := by
      have := flt_len x y (a.take j)
      rw [List.length_take] at this; omega
    rw [nx (by omega)]
    refine Ev.pos (by simp; omega) (Ev.guard (by omega) (Ev.ite (fun c => Ev.ite (fun d => ?_) (fun d => ?_)) (fun c => ?_)))
    · have hin : inT x y (a.getD j dR) = true := by unfold inT; rw [Bool.and_eq_true]; exact ⟨c, d⟩
      rw [if_pos hin] at hr
      refine Ev.bind (Ev.of (copied_is (a.getD j dR) (bytes_at hok hja)) rfl) ?_
      rintro _ rfl
      refine Ev.guard ?_ ?_
      · simp only [List.length_cons, List.length_nil, maxLen]; omega
      · exact hr
    · have hin : ¬ inT x y (a.getD j dR) = true := by unfold inT; rw [Bool.and_eq_true]; exact fun h => d h.2
      rw [if_neg hin, List.append_nil] at hr
      exact hr
    · have hin : ¬ inT x y (a.getD j dR) = true := by unfold inT; rw [Bool.and_eq_true]; exact fun h => c h.1
      rw [if_neg hin, List.append_nil] at hr
      exact hr
theorem sameLoop (a : List S) (hl : a.length ≤ 3000000000000) : ∀ (m i : Nat), i + m = a.length → Ev (fun n => f30_broughamlaw34_same_L4 n a a (i : Int)) (fun r => r = .inr ())
  | 0, i, hi => by
    apply Ev.succ
    simp only [f30_broughamlaw34_same_L4]
    exact Ev.neg (by simp; omega) (Ev.some rfl)
  | m + 1, i, hi => by
    apply Ev.succ
    simp only [f30_broughamlaw34_same_L4]
    refine Ev.pos (by simp; omega) (Ev.guard (by omega) (Ev.guard (by omega) (Ev.neg ?_ ?_)))
    · have := same_rec (a.getD ((i : Int)).toNat dS)
      intro h
      exact absurd (this.symm.trans h) (by decide)
    · rw [nx (by omega)]
      exact sameLoop a hl m (i + 1) (by omega)
theorem same_is (a : List S) (hl : a.length ≤ 3000000000000) : Ev (fun n => f30_broughamlaw34_same n a a) (fun r => r = true) := by
  unfold f30_broughamlaw34_same
  refine Ev.neg (by simp) ?_
  refine Ev.bind (sameLoop a hl a.length 0 (by omega)) ?_
  rintro _ rfl
  exact Ev.some rfl

theorem CaptureMerges (a : List R) (h0 : K.ok (.slice KR) a) (b : List R) (h1 : K.ok (.slice KR) b) (x : Int × Int) (h2 : K.ok (.pair (.int .i64) (.int .i64)) x) : ∃ n, f8_broughamlaw34_CaptureMerges n a b x.1 x.2 = some true := by
  obtain ⟨x, y⟩ := x
  apply Ev.true
  unfold f8_broughamlaw34_CaptureMerges
  refine Ev.bind (great_is a h0) ?_
  rintro r hr
  refine Ev.ite (fun _ => Ev.some rfl) fun _ => ?_
  refine Ev.bind (great_is b h1) ?_
  rintro r2 hr2
  refine Ev.ite (fun _ => Ev.some rfl) fun _ => Ev.ite (fun _ => Ev.some rfl) fun ha => Ev.ite (fun _ => Ev.some rfl) fun hb => ?_
  simp only [decide_eq_true_eq] at ha hb
  have hab : a.length ≤ 100 ∧ b.length ≤ 100 := by omega
  have hme : Ev (fun n => f42_capture_Merge n a b) (fun r => r = mrg (a.length + b.length) a b) := by
    unfold f42_capture_Merge
    refine Ev.bind (mergeLoop (a.length + b.length) a b [] (Nat.le_refl _) (by simp; omega) (fun r hr => bytes_le h0 hr) (fun r hr => bytes_le h1 hr)) ?_
    rintro _ rfl
    exact Ev.some rfl
  refine Ev.bind hme ?_
  rintro _ rfl
  refine Ev.bind (plain_is _ (by rw [mrg_len]; omega)) ?_
  rintro _ rfl
  have hl6 := L6 a b ((mrg (a.length + b.length) a b).map conv) hab x y (a.length + b.length) 0 0 (by simp) (by omega) (by omega) (by rw [List.length_map, mrg_len]) rfl
  refine Ev.bind hl6 ?_
  rintro _ rfl
  have hl20 := L20 a b (a.length : Int) (b.length : Int) hab.1 x y a.length 0 (by omega)
  refine Ev.bind hl20 ?_
  rintro _ rfl
  refine Ev.pos (by simp) (Ev.pos (by simp) ?_)
  have hbe : Ev (fun n => f43_capture_Between n a x y) (fun r => r = flt x y a) := by
    unfold f43_capture_Between
    refine Ev.bind (betLoop a h0 hab.1 x y a.length 0 (by omega)) ?_
    rintro _ rfl
    exact Ev.some rfl
  refine Ev.bind hbe ?_
  rintro _ rfl
  have hfl := flt_len x y a
  refine Ev.bind (plain_is _ (by omega)) ?_
  rintro _ rfl
  refine Ev.bind (same_is _ (by rw [List.length_map]; omega)) ?_
  rintro _ rfl
  exact Ev.pos rfl (Ev.bind alive_ev (fun r hr => Ev.some hr))
end Go.Proofs.YtjoibacjpapncaaF34
