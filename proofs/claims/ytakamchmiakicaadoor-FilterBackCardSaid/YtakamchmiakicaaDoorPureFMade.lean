/- Filters of any shape: the law's Made, the program's Right and Text of them; of the functions that text F35b prints. Conditions: none. -/
import Derived.Test.YtakamchmiakicaaDoorPureFText
namespace Go.Proofs.YtakamchmiakicaaDoorF35b
open Go Zed Go.Proofs.YtakamchmiakicaaDoorLeaf
set_option linter.unusedVariables false
set_option linter.unusedSimpArgs false
set_option maxRecDepth 100000

theorem textK1 (n : Nat) (k : Int) (a b : PT) : f56_filter_text (n + 1) (.node 1 k a b) = some tAll := by kernel_rfl
theorem textK11 (n : Nat) (k : Int) (a b : PT) : f56_filter_text (n + 1) (.node 11 k a b) = some tEmpty := by kernel_rfl
theorem textK2 (n : Nat) (k : Int) (a b : PT) : f56_filter_text (n + 1) (.node 2 k a b) = (f87_filter_flag k).bind fun r => some r := by kernel_rfl
theorem textK3 (n : Nat) (k : Int) (a b : PT) : f56_filter_text (n + 1) (.node 3 k a b) = (f52_num_Text k).bind fun r => if (⟨#[112, 111, 114, 116, 32]⟩ : BA).size + r.size ≤ 9223372036854775807 then some (⟨#[112, 111, 114, 116, 32]⟩ ++ r) else none := by kernel_rfl
theorem textK4 (n : Nat) (k : Int) (a b : PT) : f56_filter_text (n + 1) (.node 4 k a b) = (f52_num_Text k).bind fun r => if (⟨#[115, 114, 99, 32]⟩ : BA).size + r.size ≤ 9223372036854775807 then some (⟨#[115, 114, 99, 32]⟩ ++ r) else none := by kernel_rfl
theorem textK5 (n : Nat) (k : Int) (a b : PT) : f56_filter_text (n + 1) (.node 5 k a b) = (f52_num_Text k).bind fun r => if (⟨#[100, 115, 116, 32]⟩ : BA).size + r.size ≤ 9223372036854775807 then some (⟨#[100, 115, 116, 32]⟩ ++ r) else none := by kernel_rfl
theorem textK6 (n : Nat) (k : Int) (a b : PT) : f56_filter_text (n + 1) (.node 6 k a b) = (f52_num_Text k).bind fun r => if (⟨#[104, 97, 115, 32]⟩ : BA).size + r.size ≤ 9223372036854775807 then some (⟨#[104, 97, 115, 32]⟩ ++ r) else none := by kernel_rfl
theorem textK7 (n : Nat) (k : Int) (a b : PT) : f56_filter_text (n + 1) (.node 7 k a b) = (f52_num_Text k).bind fun r => if (⟨#[108, 111, 110, 103, 32]⟩ : BA).size + r.size ≤ 9223372036854775807 then some (⟨#[108, 111, 110, 103, 32]⟩ ++ r) else none := by kernel_rfl
theorem textK8 (n : Nat) (k : Int) (a b : PT) : f56_filter_text (n + 1) (.node 8 k a b) = (f56_filter_text n a).bind fun r => if (⟨#[40, 32, 110, 111, 116, 32]⟩ : BA).size + r.size ≤ 9223372036854775807 then
    if ((⟨#[40, 32, 110, 111, 116, 32]⟩ : BA) ++ r).size + (⟨#[32, 41]⟩ : BA).size ≤ 9223372036854775807 then some ((⟨#[40, 32, 110, 111, 116, 32]⟩ ++ r) ++ ⟨#[32, 41]⟩) else none else none := by kernel_rfl
theorem textK9 (n : Nat) (k : Int) (a b : PT) : f56_filter_text (n + 1) (.node 9 k a b) = (f56_filter_text n a).bind fun r => if (⟨#[40, 32]⟩ : BA).size + r.size ≤ 9223372036854775807 then
    if ((⟨#[40, 32]⟩ : BA) ++ r).size + (⟨#[32, 97, 110, 100, 32]⟩ : BA).size ≤ 9223372036854775807 then (f56_filter_text n b).bind fun s =>
    if (((⟨#[40, 32]⟩ : BA) ++ r) ++ (⟨#[32, 97, 110, 100, 32]⟩ : BA)).size + s.size ≤ 9223372036854775807 then
    if ((((⟨#[40, 32]⟩ : BA) ++ r) ++ (⟨#[32, 97, 110, 100, 32]⟩ : BA)) ++ s).size + (⟨#[32, 41]⟩ : BA).size ≤ 9223372036854775807 then some ((((⟨#[40, 32]⟩ ++ r) ++ ⟨#[32, 97, 110, 100, 32]⟩) ++ s) ++ ⟨#[32, 41]⟩) else none else none else none else none := by kernel_rfl
theorem textK10 (n : Nat) (k : Int) (a b : PT) : f56_filter_text (n + 1) (.node 10 k a b) = (f56_filter_text n a).bind fun r => if (⟨#[40, 32]⟩ : BA).size + r.size ≤ 9223372036854775807 then
    if ((⟨#[40, 32]⟩ : BA) ++ r).size + (⟨#[32, 111, 114, 32]⟩ : BA).size ≤ 9223372036854775807 then (f56_filter_text n b).bind fun s =>
    if (((⟨#[40, 32]⟩ : BA) ++ r) ++ (⟨#[32, 111, 114, 32]⟩ : BA)).size + s.size ≤ 9223372036854775807 then
    if ((((⟨#[40, 32]⟩ : BA) ++ r) ++ (⟨#[32, 111, 114, 32]⟩ : BA)) ++ s).size + (⟨#[32, 41]⟩ : BA).size ≤ 9223372036854775807 then some ((((⟨#[40, 32]⟩ ++ r) ++ ⟨#[32, 111, 114, 32]⟩) ++ s) ++ ⟨#[32, 41]⟩) else none else none else none else none := by kernel_rfl
theorem flag_is (k : Int) : f87_filter_flag k = some (flagT k) := by
  unfold f87_filter_flag flagT
  by_cases h1 : k = 1
  · simp [h1]
  by_cases h2 : k = 2 <;> simp [h1, h2]
theorem num_is {k : Int} (h : 0 ≤ k ∧ k ≤ 2147483647) : f52_num_Text k = some (textB k) := by
  unfold f52_num_Text; rw [if_pos (by omega)]
theorem pow17 {d : Nat} (h : d ≤ 17) : 2 ^ d ≤ 131072 := Nat.le_trans (Nat.pow_le_pow_right (by omega) h) (by decide)
theorem textT_ev : ∀ {t : PT} (h : Tr t) (hl : lvs t = true) (hd : dpt t ≤ 17), Ev (fun n => f56_filter_text n t) (fun r => r = tx t) := by
  intro t h
  induction h with
  | @leaf o k h =>
    intro hl hd
    have e : lvs (.node o k .nil .nil) = leafS o k := by simp [lvs]
    rw [e] at hl
    have e1 : tx (.node o k .nil .nil) = leafT o k := by unfold Leaf at h; rw [tx, if_neg (by omega), if_neg (by omega), if_neg (by omega)]
    have hn := leafS_num h hl
    have hz := (leaf_pc h hl).2.2
    rw [e1]
    refine ⟨_, rfl, 1, fun n hn' => ?_⟩
    obtain ⟨m, rfl⟩ : ∃ m, n = m + 1 := ⟨n - 1, by omega⟩
    show f56_filter_text (m + 1) _ = _
    have big : ∀ (u v : BA), (u ++ v).size ≤ 30 → u.size + v.size ≤ 9223372036854775807 := fun u v h => by rw [sz_app] at h; omega
    rcases h with rfl | rfl | rfl | rfl | rfl | rfl | rfl | rfl
    · rw [textK1]; rfl
    · rw [textK2, flag_is]; rfl
    · have hk := hn (by decide) (by decide) (by decide)
      rw [textK3, num_is hk]; exact if_pos (big _ _ hz)
    · have hk := hn (by decide) (by decide) (by decide)
      rw [textK4, num_is hk]; exact if_pos (big _ _ hz)
    · have hk := hn (by decide) (by decide) (by decide)
      rw [textK5, num_is hk]; exact if_pos (big _ _ hz)
    · have hk := hn (by decide) (by decide) (by decide)
      rw [textK6, num_is hk]; exact if_pos (big _ _ hz)
    · have hk := hn (by decide) (by decide) (by decide)
      rw [textK7, num_is hk]; exact if_pos (big _ _ hz)
    · rw [textK11]; rfl
  | @neg a h ih =>
    intro hl hd
    have hz := (tx_is (.neg h) hl).2.2
    rw [lvs_neg h] at hl
    have hd0 := pow17 hd
    rw [dpt_neg] at hd
    obtain ⟨_, rfl, N, hN⟩ := ih hl (by omega)
    have hN : ∀ n, N ≤ n → f56_filter_text n a = some (tx a) := hN
    have e1 : tx (.node 8 0 a .nil) = (⟨#[40, 32, 110, 111, 116, 32]⟩ ++ tx a) ++ ⟨#[32, 41]⟩ := by rw [tx, if_pos rfl]
    rw [e1] at hz ⊢
    rw [sz_app] at hz
    refine ⟨_, rfl, N + 1, fun n hn => ?_⟩
    obtain ⟨m, rfl⟩ : ∃ m, n = m + 1 := ⟨n - 1, by omega⟩
    show f56_filter_text (m + 1) _ = _
    rw [textK8, hN m (by omega), Option.bind_some, if_pos (by rw [sz_app] at hz; omega), if_pos (by omega)]
  | @two o a b ho h k ih1 ih2 =>
    intro hl hd
    have hz := (tx_is (.two ho h k) hl).2.2
    rw [lvs_two h, Bool.and_eq_true] at hl
    have hd0 := pow17 hd
    rw [dpt_two] at hd
    obtain ⟨_, rfl, N, hN⟩ := ih1 hl.1 (by omega)
    obtain ⟨_, rfl, M, hM⟩ := ih2 hl.2 (by omega)
    have hN : ∀ n, N ≤ n → f56_filter_text n a = some (tx a) := hN
    have hM : ∀ n, M ≤ n → f56_filter_text n b = some (tx b) := hM
    refine ⟨_, rfl, max N M + 1, fun n hn => ?_⟩
    obtain ⟨m, rfl⟩ : ∃ m, n = m + 1 := ⟨n - 1, by omega⟩
    show f56_filter_text (m + 1) _ = _
    rcases ho with rfl | rfl
    · have e1 : tx (.node 9 0 a b) = (((⟨#[40, 32]⟩ ++ tx a) ++ ⟨#[32, 97, 110, 100, 32]⟩) ++ tx b) ++ ⟨#[32, 41]⟩ := by rw [tx, if_neg (by omega), if_pos rfl]
      rw [e1] at hz ⊢
      have z1 := hz; rw [sz_app] at z1
      have z2 := z1; rw [sz_app] at z2
      have z3 := z2; rw [sz_app] at z3
      have z4 := z3; rw [sz_app] at z4
      rw [textK9, hN m (by omega), Option.bind_some, if_pos (by omega), if_pos (by omega), hM m (by omega), Option.bind_some, if_pos (by omega), if_pos (by omega)]
    · have e1 : tx (.node 10 0 a b) = (((⟨#[40, 32]⟩ ++ tx a) ++ ⟨#[32, 111, 114, 32]⟩) ++ tx b) ++ ⟨#[32, 41]⟩ := by rw [tx, if_neg (by omega), if_neg (by omega), if_pos rfl]
      rw [e1] at hz ⊢
      have z1 := hz; rw [sz_app] at z1
      have z2 := z1; rw [sz_app] at z2
      have z3 := z2; rw [sz_app] at z3
      have z4 := z3; rw [sz_app] at z4
      rw [textK10, hN m (by omega), Option.bind_some, if_pos (by omega), if_pos (by omega), hM m (by omega), Option.bind_some, if_pos (by omega), if_pos (by omega)]
/-! Right of any tree. -/
theorem rg0 (n : Nat) (o k : Int) (a b : PT) : f59_filter_right (n + 1) (.node o k a b) 0 = some false := by kernel_rfl
theorem rgn (n : Nat) (l : Int) : f59_filter_right (n + 1) .nil l = some false := by kernel_rfl
theorem rg1 (n : Nat) (k : Int) (a b : PT) (l : Int) : f59_filter_right (n + 3) (.node 1 k a b) l = if (l == 0) = true then some false else if (k == 0) = true then (if a.isNil = true then some b.isNil else some false) else some false := by kernel_rfl
theorem rg11 (n : Nat) (k : Int) (a b : PT) (l : Int) : f59_filter_right (n + 3) (.node 11 k a b) l = if (l == 0) = true then some false else if (k == 0) = true then (if a.isNil = true then some b.isNil else some false) else some false := by kernel_rfl
theorem rg2 (n : Nat) (k : Int) (a b : PT) (l : Int) : f59_filter_right (n + 3) (.node 2 k a b) l = if (l == 0) = true then some false else (if (k == 1) = true then (if a.isNil = true then some b.isNil else some false) else if (k == 2) = true then (if a.isNil = true then some b.isNil else some false) else if (k == 4) = true then (if a.isNil = true then some b.isNil else some false) else some false).bind fun w => some w := by kernel_rfl
theorem rg3 (n : Nat) (k : Int) (a b : PT) (l : Int) : f59_filter_right (n + 3) (.node 3 k a b) l = if (l == 0) = true then some false else (if (decide (k ≥ 0)) = true then (if (decide (k ≤ 65535)) = true then (if a.isNil = true then some b.isNil else some false) else some false) else some false).bind fun w => some w := by kernel_rfl
theorem rg4 (n : Nat) (k : Int) (a b : PT) (l : Int) : f59_filter_right (n + 3) (.node 4 k a b) l = if (l == 0) = true then some false else (if (decide (k ≥ 0)) = true then (if (decide (k ≤ 65535)) = true then (if a.isNil = true then some b.isNil else some false) else some false) else some false).bind fun w => some w := by kernel_rfl
theorem rg5 (n : Nat) (k : Int) (a b : PT) (l : Int) : f59_filter_right (n + 3) (.node 5 k a b) l = if (l == 0) = true then some false else (if (decide (k ≥ 0)) = true then (if (decide (k ≤ 65535)) = true then (if a.isNil = true then some b.isNil else some false) else some false) else some false).bind fun w => some w := by kernel_rfl
theorem rg6 (n : Nat) (k : Int) (a b : PT) (l : Int) : f59_filter_right (n + 3) (.node 6 k a b) l = if (l == 0) = true then some false else ((if (decide (k ≥ 1)) = true then (if (decide (k ≤ 255)) = true then (if a.isNil = true then some b.isNil else some false) else some false) else some false).bind fun w => some w).bind fun w => some w := by kernel_rfl
theorem rg7 (n : Nat) (k : Int) (a b : PT) (l : Int) : f59_filter_right (n + 3) (.node 7 k a b) l = if (l == 0) = true then some false else ((if (decide (k ≥ 0)) = true then (if (decide (k < 2147483648)) = true then (if a.isNil = true then some b.isNil else some false) else some false) else some false).bind fun w => some w).bind fun w => some w := by kernel_rfl
theorem rg8 (n : Nat) (k : Int) (a b : PT) (l : Int) : f59_filter_right (n + 3) (.node 8 k a b) l = if (l == 0) = true then some false else ((if (k == 0) = true then (f59_filter_right (n + 2) a (IntKind.wrap .i64 (l - 1))).bind fun r => if r = true then some b.isNil else some false else some false).bind fun w => some w).bind fun w => some w := by kernel_rfl
theorem rg9 (n : Nat) (k : Int) (a b : PT) (l : Int) : f59_filter_right (n + 3) (.node 9 k a b) l = if (l == 0) = true then some false else ((if (k == 0) = true then (f59_filter_right (n + 2) a (IntKind.wrap .i64 (l - 1))).bind fun r => if r = true then (f59_filter_right (n + 2) b (IntKind.wrap .i64 (l - 1))).bind fun s => some s else some false else some false).bind fun w => some w).bind fun w => some w := by kernel_rfl
theorem rg10 (n : Nat) (k : Int) (a b : PT) (l : Int) : f59_filter_right (n + 3) (.node 10 k a b) l = if (l == 0) = true then some false else ((if (k == 0) = true then (f59_filter_right (n + 2) a (IntKind.wrap .i64 (l - 1))).bind fun r => if r = true then (f59_filter_right (n + 2) b (IntKind.wrap .i64 (l - 1))).bind fun s => some s else some false else some false).bind fun w => some w).bind fun w => some w := by kernel_rfl
theorem rgo (n : Nat) (o k : Int) (a b : PT) (l : Int) (h : ¬ Leaf o) (h8 : o ≠ 8) (h9 : o ≠ 9) (h10 : o ≠ 10) : f59_filter_right (n + 3) (.node o k a b) l = if (l == 0) = true then some false else some false := by
  unfold Leaf at h
  simp only [not_or] at h
  obtain ⟨h1, h2, h3, h4, h5, h6, h7, h11⟩ := h
  simp [f59_filter_right, f59_filter_right_L7, f59_filter_right_L13, PT.isNil, PT.op, h1, h2, h3, h4, h5, h6, h7, h8, h9, h10, h11]
theorem some_of {f : Nat → Option Bool} {X : Option Bool} {P : Bool → Prop} (h : ∀ n, f (n + 3) = X) (k : ∃ r, X = some r ∧ P r) : Ev f P := by
  obtain ⟨r, h1, h2⟩ := k
  exact ⟨r, h2, 3, fun n hn => by
    obtain ⟨m, rfl⟩ : ∃ m, n = m + 3 := ⟨n - 3, by omega⟩
    exact (h m).trans h1⟩
theorem nil_of {t : PT} (h : t.isNil = true) : t = .nil := by
  cases t with
  | nil => rfl
  | node => cases h
theorem leafG_ev {o : Int} (h : Leaf o) (k : Int) (a b : PT) (l : Int) : Ev (fun n => f59_filter_right n (.node o k a b) l) (fun r => r = true → Tr (.node o k a b)) := by
  have fin : a.isNil = true → b.isNil = true → Tr (.node o k a b) := fun x y => by rw [nil_of x, nil_of y]; exact .leaf h
  rcases h with rfl | rfl | rfl | rfl | rfl | rfl | rfl | rfl
  · exact some_of (fun n => rg1 n k a b l) (by repeat' split
                                               all_goals exact ⟨_, rfl, by simp_all⟩)
  · exact some_of (fun n => rg2 n k a b l) (by rw [bs]; repeat' split
                                               all_goals exact ⟨_, rfl, by simp_all⟩)
  · exact some_of (fun n => rg3 n k a b l) (by rw [bs]; repeat' split
                                               all_goals exact ⟨_, rfl, by simp_all⟩)
  · exact some_of (fun n => rg4 n k a b l) (by rw [bs]; repeat' split
                                               all_goals exact ⟨_, rfl, by simp_all⟩)
  · exact some_of (fun n => rg5 n k a b l) (by rw [bs]; repeat' split
                                               all_goals exact ⟨_, rfl, by simp_all⟩)
  · exact some_of (fun n => rg6 n k a b l) (by rw [bs, bs]; repeat' split
                                               all_goals exact ⟨_, rfl, by simp_all⟩)
  · exact some_of (fun n => rg7 n k a b l) (by rw [bs, bs]; repeat' split
                                               all_goals exact ⟨_, rfl, by simp_all⟩)
  · exact some_of (fun n => rg11 n k a b l) (by repeat' split
                                                all_goals exact ⟨_, rfl, by simp_all⟩)
theorem rightG_ev : ∀ (t : PT) (l : Nat) (hl : l ≤ 1000), Ev (fun n => f59_filter_right n t (l : Int)) (fun r => r = true → Tr t)
  | .nil, l, hl => ⟨false, (fun h => by cases h), 1, fun n hn => by
      obtain ⟨m, rfl⟩ : ∃ m, n = m + 1 := ⟨n - 1, by omega⟩
      exact rgn m _⟩
  | .node o k a b, 0, hl => ⟨false, (fun h => by cases h), 1, fun n hn => by
      obtain ⟨m, rfl⟩ : ∃ m, n = m + 1 := ⟨n - 1, by omega⟩
      exact rg0 m o k a b⟩
  | .node o k a b, l + 1, hl => by
    by_cases hL : Leaf o
    · exact leafG_ev hL k a b _
    have w : IntKind.wrap .i64 (((l + 1 : Nat) : Int) - 1) = (l : Int) := by rw [i64_id (by omega) (by omega)]; omega
    have e0 : ¬ (((l + 1 : Nat) : Int) == 0) = true := by simp; omega
    obtain ⟨r, hr, N, hN⟩ := rightG_ev a l (by omega)
    obtain ⟨s, hs, M, hM⟩ := rightG_ev b l (by omega)
    have hN : ∀ n, N ≤ n → f59_filter_right n a (l : Int) = some r := hN
    have hM : ∀ n, M ≤ n → f59_filter_right n b (l : Int) = some s := hM
    have fin : ∀ {X : Option Bool} {P : Bool → Prop}, (∀ m, max N M ≤ m → f59_filter_right (m + 3) (.node o k a b) ((l + 1 : Nat) : Int) = X) → (∃ r, X = some r ∧ P r) → Ev (fun n => f59_filter_right n (.node o k a b) ((l + 1 : Nat) : Int)) P := by
      intro X P h k
      obtain ⟨r, h1, h2⟩ := k
      exact ⟨r, h2, max N M + 3, fun n hn => by
        obtain ⟨m, rfl⟩ : ∃ m, n = m + 3 := ⟨n - 3, by omega⟩
        exact (h m (by omega)).trans h1⟩
    by_cases h8 : o = 8
    · subst h8
      refine fin (X := if (k == 0) = true then (if r = true then some b.isNil else some false) else some false) (fun m hm => ?_) ?_
      · rw [rg8, bs, bs, if_neg e0, w, hN _ (by omega)]; rfl
      · by_cases hk : k = 0
        · subst hk
          rw [if_pos (by decide)]
          cases r
          · exact ⟨false, rfl, fun h => by cases h⟩
          · exact ⟨b.isNil, rfl, fun h => by rw [nil_of h]; exact .neg (hr rfl)⟩
        · rw [if_neg (by simpa using hk)]; exact ⟨false, rfl, fun h => by cases h⟩
    by_cases h9 : o = 9
    · subst h9
      refine fin (X := if (k == 0) = true then (if r = true then some s else some false) else some false) (fun m hm => ?_) ?_
      · rw [rg9, bs, bs, if_neg e0, w, hN _ (by omega)]
        show (if (k == 0) = true then (if r = true then (f59_filter_right (m + 2) b (l : Int)).bind fun s => some s else some false) else some false) = _
        rw [hM _ (by omega)]; rfl
      · by_cases hk : k = 0
        · subst hk
          rw [if_pos (by decide)]
          cases r
          · exact ⟨false, rfl, fun h => by cases h⟩
          · exact ⟨s, rfl, fun h => .two (.inl rfl) (hr rfl) (hs h)⟩
        · rw [if_neg (by simpa using hk)]; exact ⟨false, rfl, fun h => by cases h⟩
    by_cases h10 : o = 10
    · subst h10
      refine fin (X := if (k == 0) = true then (if r = true then some s else some false) else some false) (fun m hm => ?_) ?_
      · rw [rg10, bs, bs, if_neg e0, w, hN _ (by omega)]
        show (if (k == 0) = true then (if r = true then (f59_filter_right (m + 2) b (l : Int)).bind fun s => some s else some false) else some false) = _
        rw [hM _ (by omega)]; rfl
      · by_cases hk : k = 0
        · subst hk
          rw [if_pos (by decide)]
          cases r
          · exact ⟨false, rfl, fun h => by cases h⟩
          · exact ⟨s, rfl, fun h => .two (.inr rfl) (hr rfl) (hs h)⟩
        · rw [if_neg (by simpa using hk)]; exact ⟨false, rfl, fun h => by cases h⟩
    exact fin (X := some false) (fun m hm => by rw [rgo m o k a b _ hL h8 h9 h10, if_neg e0]) ⟨false, rfl, fun h => by cases h⟩
/-- Right says which may be. -/
theorem rightX_ev (t : PT) : Ev (fun n => f31_filter_Right n t) (fun r => r = true ↔ Tr t ∧ Good t) := by
  by_cases h : Tr t
  · refine (rightT_ev h).mono fun r hr => ?_
    rw [hr]; exact ⟨fun q => ⟨h, q⟩, fun q => q.2⟩
  · unfold f31_filter_Right
    refine Ev.bind (rightG_ev t 16 (by omega)) fun r hr => Ev.some ⟨fun q => absurd (hr q) h, fun q => absurd q.1 h⟩
/-- Text of any tree. -/
theorem text_says (t : PT) : Ev (fun n => f27_filter_Text n t) (fun r => (Tr t ∧ Good t ∧ r = tx t) ∨ (¬ (Tr t ∧ Good t) ∧ r = ⟨#[]⟩)) := by
  unfold f27_filter_Text
  refine Ev.bind (rightX_ev t) fun r hr => ?_
  by_cases c : r = true
  · obtain ⟨h, g⟩ := hr.1 c
    have g0 := g
    unfold Good at g0
    simp only [Bool.and_eq_true, decide_eq_true_eq] at g0
    refine Ev.neg (by simp [c]) (Ev.bind (textT_ev h g0.2 (by omega)) ?_)
    rintro _ rfl
    exact Ev.some (.inl ⟨h, g, rfl⟩)
  · exact Ev.pos (by simpa using c) (Ev.some (.inr ⟨fun q => c (hr.2 q), rfl⟩))
end Go.Proofs.YtakamchmiakicaaDoorF35b
