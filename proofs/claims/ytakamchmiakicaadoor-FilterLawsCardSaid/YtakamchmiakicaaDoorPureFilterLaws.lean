/- FilterLaws as plain Lean: of the functions that text F35d prints, the law answers true for every two filters and segment. Conditions: none. -/
import Derived.Test.YtakamchmiakicaaDoorPureFMatch
namespace Go.Proofs.YtakamchmiakicaaDoorF35d
open Go Zed Go.Proofs.YtakamchmiakicaaDoorLeaf
set_option linter.unusedVariables false
set_option linter.unusedSimpArgs false
set_option maxRecDepth 100000

theorem Ev2.ite {α : Type} {c : Prop} [Decidable c] {F G : Nat → Nat → Option α} {Q : α → Prop} (h : c → Ev2 F Q) (k : ¬ c → Ev2 G Q) : Ev2 (fun m n => if c then F m n else G m n) Q := by
  by_cases hc : c
  · exact Ev2.pos hc (h hc)
  · exact Ev2.neg hc (k hc)
theorem Ev2.guard {α : Type} {c : Prop} [Decidable c] {F : Nat → Nat → Option α} {Q : α → Prop} (hc : c) (h : Ev2 F Q) : Ev2 (fun m n => if c then F m n else none) Q := Ev2.pos hc h
theorem FT.ok_len {o k : Int} {l : List FT} (h : FT.ok (.mk o k l)) : l.length ≤ 4000000000000 ∧ ∀ x ∈ l, FT.ok x := by
  obtain ⟨_, _, h3, h4⟩ := h
  refine ⟨by omega, ?_⟩
  clear h3
  induction l with
  | nil => intro x hx; cases hx
  | cons t r ih =>
    intro x hx
    rcases List.mem_cons.1 hx with e | hx
    · rw [e]; exact h4.1
    · exact ih h4.2 x hx
theorem un_get (l : List FT) (i : Nat) (h : i < l.length) : ∃ x ∈ l, (l.map FT.un).getD i (0, 0, []) = x.un ∧ l.drop i = x :: l.drop (i + 1) := by
  refine ⟨l[i], List.getElem_mem h, ?_, List.drop_eq_getElem_cons h⟩
  rw [List.getD_eq_getElem?_getD, List.getElem?_map, List.getElem?_eq_getElem h]; rfl
/-! How deep: whatever it is. -/
abbrev DepE (x : FT) : Prop := Ev (fun n => f57_broughamref35_depth n x.un.1 x.un.2.1 (x.un.2.2.map FT.un)) (fun _ => True)
theorem dep_loop (o k : Int) (l : List FT) (hl : l.length ≤ 4000000000000) (h : ∀ x ∈ l, DepE x) : ∀ (d i : Nat) (hi : i + d = l.length) (z : Int),
    Ev2 (fun m n => f57_broughamref35_depth_L3 (f57_broughamref35_depth m) n z (i : Int) o k (l.map FT.un)) (fun _ => True)
  | 0, i, hi, z => by
    apply Ev2.succ
    simp only [f57_broughamref35_depth_L3]
    exact Ev2.neg (by simp only [decide_eq_true_eq, List.length_map]; omega) (Ev2.some trivial)
  | d + 1, i, hi, z => by
    obtain ⟨x, hx, e1, e2⟩ := un_get l i (by omega)
    apply Ev2.succ
    simp only [f57_broughamref35_depth_L3]
    rw [Int.toNat_natCast, i64_id (e := (i : Int) + 1) (by omega) (by omega), e1]
    refine Ev2.pos (by simp only [decide_eq_true_eq, List.length_map]; omega) (Ev2.guard (by simp only [List.length_map]; omega) (Ev2.bind (Ev2.left (h x hx)) fun r _ => ?_))
    exact Ev2.ite (fun _ => dep_loop o k l hl h d (i + 1) (by omega) r) (fun _ => dep_loop o k l hl h d (i + 1) (by omega) z)
theorem dep_step (o k : Int) (l : List FT) (hl : l.length ≤ 4000000000000) (h : ∀ x ∈ l, DepE x) : DepE (.mk o k l) := by
  show Ev (fun n => f57_broughamref35_depth n o k (l.map FT.un)) (fun _ => True)
  apply Ev.succ
  simp only [f57_broughamref35_depth]
  exact Ev.bind (Ev2.diag (dep_loop o k l hl h l.length 0 (by omega) 0)) fun r _ => Ev.some trivial
mutual
theorem dep_ev : ∀ x : FT, FT.ok x → DepE x
  | .mk o k l, h => dep_step o k l (FT.ok_len h).1 (deps_ev l (FT.ok_len h).2)
theorem deps_ev : ∀ l : List FT, (∀ x ∈ l, FT.ok x) → ∀ x ∈ l, DepE x
  | [], _, x, h => by cases h
  | t :: r, ho, x, h => by
    rcases List.mem_cons.1 h with e | h
    · rw [e]; exact dep_ev t (ho t List.mem_cons_self)
    · exact deps_ev r (fun y hy => ho y (List.mem_cons_of_mem _ hy)) x h
end
/-! What own says. -/
theorem ow1 (n : Nat) (k : Int) (L : List FR) : f88_broughamref35_own (n + 2) 1 k L = ((if (((L.length : Nat) : Int) != 0) = true then some false else (if (k == 0) = true then some true else some false).bind fun w => some w)).bind fun w => some w := by kernel_rfl
theorem ow2 (n : Nat) (k : Int) (L : List FR) : f88_broughamref35_own (n + 2) 2 k L = (if (((L.length : Nat) : Int) != 0) = true then some false else if (k == 1) = true then some true else if (k == 2) = true then some true else some (k == 4)).bind fun w => some w := by kernel_rfl
theorem ow3 (n : Nat) (k : Int) (L : List FR) : f88_broughamref35_own (n + 2) 3 k L = (if (((L.length : Nat) : Int) != 0) = true then some false else if (decide (k ≥ 0)) = true then some (decide (k ≤ 65535)) else some false).bind fun w => some w := by kernel_rfl
theorem ow4 (n : Nat) (k : Int) (L : List FR) : f88_broughamref35_own (n + 2) 4 k L = (if (((L.length : Nat) : Int) != 0) = true then some false else if (decide (k ≥ 0)) = true then some (decide (k ≤ 65535)) else some false).bind fun w => some w := by kernel_rfl
theorem ow5 (n : Nat) (k : Int) (L : List FR) : f88_broughamref35_own (n + 2) 5 k L = (if (((L.length : Nat) : Int) != 0) = true then some false else if (decide (k ≥ 0)) = true then some (decide (k ≤ 65535)) else some false).bind fun w => some w := by kernel_rfl
theorem ow6 (n : Nat) (k : Int) (L : List FR) : f88_broughamref35_own (n + 2) 6 k L = ((if (((L.length : Nat) : Int) != 0) = true then some false else (if (decide (k ≥ 1)) = true then some (decide (k ≤ 255)) else some false).bind fun w => some w)).bind fun w => some w := by kernel_rfl
theorem ow7 (n : Nat) (k : Int) (L : List FR) : f88_broughamref35_own (n + 2) 7 k L = ((if (((L.length : Nat) : Int) != 0) = true then some false else (if (decide (k ≥ 0)) = true then some (decide (k ≤ 2147483647)) else some false).bind fun w => some w)).bind fun w => some w := by kernel_rfl
theorem ow11 (n : Nat) (k : Int) (L : List FR) : f88_broughamref35_own (n + 2) 11 k L = ((if (((L.length : Nat) : Int) != 0) = true then some false else (if (k == 0) = true then some true else some false).bind fun w => some w)).bind fun w => some w := by kernel_rfl
theorem ow8 (n : Nat) (k : Int) (L : List FR) : f88_broughamref35_own (n + 2) 8 k L = ((if (((L.length : Nat) : Int) != 1) = true then some false else (if (k == 0) = true then some true else some false).bind fun w => some w)).bind fun w => some w := by kernel_rfl
theorem ow9 (n : Nat) (k : Int) (L : List FR) : f88_broughamref35_own (n + 2) 9 k L = ((if (((L.length : Nat) : Int) != 2) = true then some false else (if (k == 0) = true then some true else some false).bind fun w => some w)).bind fun w => some w := by kernel_rfl
theorem ow10 (n : Nat) (k : Int) (L : List FR) : f88_broughamref35_own (n + 2) 10 k L = ((if (((L.length : Nat) : Int) != 2) = true then some false else (if (k == 0) = true then some true else some false).bind fun w => some w)).bind fun w => some w := by kernel_rfl
theorem owo (n : Nat) (o k : Int) (L : List FR) (h : ¬ Leaf o) (h8 : o ≠ 8) (h9 : o ≠ 9) (h10 : o ≠ 10) : f88_broughamref35_own (n + 2) o k L = some false := by
  unfold Leaf at h
  simp only [not_or] at h
  obtain ⟨h1, h2, h3, h4, h5, h6, h7, h11⟩ := h
  by_cases ho : 1 ≤ o
  · have ho' : ¬ o ≤ 11 := by omega
    simp [f88_broughamref35_own, f88_broughamref35_own_L6, f88_broughamref35_own_L15, h2, h3, h4, h5, h6, h7, h8, h9, h10, ho, ho']
  · simp [f88_broughamref35_own, f88_broughamref35_own_L6, f88_broughamref35_own_L15, h2, h3, h4, h5, h6, h7, h8, h9, h10, ho]
def OwnP (o k : Int) (m : Nat) : Prop := (Leaf o ∧ m = 0 ∧ leafS o k = true) ∨ (o = 8 ∧ k = 0 ∧ m = 1) ∨ ((o = 9 ∨ o = 10) ∧ k = 0 ∧ m = 2)
theorem own_of {f : Nat → Option Bool} {X : Option Bool} {P : Bool → Prop} (h : ∀ n, f (n + 2) = X) (k : ∃ r, X = some r ∧ P r) : Ev f P := by
  obtain ⟨r, h1, h2⟩ := k
  exact ⟨r, h2, 2, fun n hn => by
    obtain ⟨m, rfl⟩ : ∃ m, n = m + 2 := ⟨n - 2, by omega⟩
    exact (h m).trans h1⟩
theorem own_says (o k : Int) (L : List FR) : Ev (fun n => f88_broughamref35_own n o k L) (fun r => r = true ↔ OwnP o k L.length) := by
  by_cases hL : Leaf o
  · have hL0 := hL
    have e : ∀ {P : Bool}, (P = true ↔ L.length = 0 ∧ leafS o k = true) → (P = true ↔ OwnP o k L.length) := by
      intro P hP
      rw [hP]
      unfold OwnP
      refine ⟨fun h => .inl ⟨hL0, h⟩, fun h => ?_⟩
      rcases h with h | h | h
      · exact h.2
      · unfold Leaf at hL0; omega
      · unfold Leaf at hL0; omega
    have z : ∀ {m : Nat}, ((((m : Nat) : Int) != 0) = true) ↔ ¬ m = 0 := by intro m; simp
    rcases hL with rfl | rfl | rfl | rfl | rfl | rfl | rfl | rfl
    · exact own_of (fun n => ow1 n k L) (by
        rw [bs, bs]; repeat' split
        all_goals exact ⟨_, rfl, e (by simp_all [leafS] <;> (intros; omega))⟩)
    · exact own_of (fun n => ow2 n k L) (by
        rw [bs]; repeat' split
        all_goals exact ⟨_, rfl, e (by simp_all [leafS] <;> (intros; omega))⟩)
    · exact own_of (fun n => ow3 n k L) (by
        rw [bs]; repeat' split
        all_goals exact ⟨_, rfl, e (by simp_all [leafS] <;> (intros; omega))⟩)
    · exact own_of (fun n => ow4 n k L) (by
        rw [bs]; repeat' split
        all_goals exact ⟨_, rfl, e (by simp_all [leafS] <;> (intros; omega))⟩)
    · exact own_of (fun n => ow5 n k L) (by
        rw [bs]; repeat' split
        all_goals exact ⟨_, rfl, e (by simp_all [leafS] <;> (intros; omega))⟩)
    · exact own_of (fun n => ow6 n k L) (by
        rw [bs, bs]; repeat' split
        all_goals exact ⟨_, rfl, e (by simp_all [leafS] <;> (intros; omega))⟩)
    · exact own_of (fun n => ow7 n k L) (by
        rw [bs, bs]; repeat' split
        all_goals exact ⟨_, rfl, e (by simp_all [leafS] <;> (intros; omega))⟩)
    · exact own_of (fun n => ow11 n k L) (by
        rw [bs, bs]; repeat' split
        all_goals exact ⟨_, rfl, e (by simp_all [leafS] <;> (intros; omega))⟩)
  by_cases h8 : o = 8
  · subst h8
    exact own_of (fun n => ow8 n k L) (by
      rw [bs, bs]; unfold OwnP
      repeat' split
      all_goals exact ⟨_, rfl, by simp_all; try omega⟩)
  by_cases h9 : o = 9
  · subst h9
    exact own_of (fun n => ow9 n k L) (by
      rw [bs, bs]; unfold OwnP
      repeat' split
      all_goals exact ⟨_, rfl, by simp_all; try omega⟩)
  by_cases h10 : o = 10
  · subst h10
    exact own_of (fun n => ow10 n k L) (by
      rw [bs, bs]; unfold OwnP
      repeat' split
      all_goals exact ⟨_, rfl, by simp_all; try omega⟩)
  refine own_of (fun n => owo n o k L hL h8 h9 h10) ⟨false, rfl, ?_⟩
  refine ⟨(fun h => by cases h), fun h => ?_⟩
  rcases h with h | h | h
  · exact absurd h.1 hL
  · exact absurd h.1 h8
  · rcases h.1 with h | h
    · exact absurd h h9
    · exact absurd h h10
/-! All of it. -/
def AllP (x : FT) : Prop := tw x ∧ Tr (md x) ∧ lvs (md x) = true
abbrev AllE (x : FT) : Prop := Ev (fun n => f58_broughamref35_all n x.un.1 x.un.2.1 (x.un.2.2.map FT.un)) (fun r => r = true → AllP x)
theorem all_loop (o k : Int) (l : List FT) (hl : l.length ≤ 4000000000000) (h : ∀ x ∈ l, AllE x) : ∀ (d i : Nat) (hi : i + d = l.length),
    Ev2 (fun m n => f58_broughamref35_all_L2 (f58_broughamref35_all m) n (i : Int) o k (l.map FT.un)) (fun w => w = .inl false ∨ (w = .inr (o, k, l.map FT.un) ∧ ∀ x ∈ l.drop i, AllP x))
  | 0, i, hi => by
    apply Ev2.succ
    simp only [f58_broughamref35_all_L2]
    refine Ev2.neg (by simp only [decide_eq_true_eq, List.length_map]; omega) (Ev2.some (.inr ⟨rfl, ?_⟩))
    rw [List.drop_eq_nil_of_le (by omega)]; intro x hx; cases hx
  | d + 1, i, hi => by
    obtain ⟨x, hx, e1, e2⟩ := un_get l i (by omega)
    apply Ev2.succ
    simp only [f58_broughamref35_all_L2]
    rw [Int.toNat_natCast, i64_id (e := (i : Int) + 1) (by omega) (by omega), e1]
    refine Ev2.pos (by simp only [decide_eq_true_eq, List.length_map]; omega) (Ev2.guard (by simp only [List.length_map]; omega) (Ev2.bind (Ev2.left (h x hx)) fun r hr => ?_))
    refine Ev2.ite (fun _ => Ev2.some (.inl rfl)) (fun c => (all_loop o k l hl h d (i + 1) (by omega)).mono fun w hw => ?_)
    rcases hw with hw | ⟨hw, hq⟩
    · exact .inl hw
    · refine .inr ⟨hw, ?_⟩
      rw [e2]
      intro y hy
      rcases List.mem_cons.1 hy with e | hy
      · rw [e]; exact hr (by simpa using c)
      · exact hq y hy
theorem all_fin {o k : Int} {l : List FT} (h : ∀ x ∈ l, AllP x) (ho : OwnP o k l.length) : AllP (.mk o k l) := by
  rcases ho with ⟨h1, h2, h3⟩ | ⟨rfl, rfl, h3⟩ | ⟨h1, rfl, h3⟩
  · obtain rfl := List.eq_nil_of_length_eq_zero h2
    exact ⟨⟨by simp, trivial⟩, Tr.leaf h1, h3⟩
  · obtain ⟨a, rfl⟩ := List.length_eq_one_iff.1 h3
    obtain ⟨p1, p2, p3⟩ := h a (by simp)
    exact ⟨⟨by simp, p1, trivial⟩, Tr.neg p2, (lvs_neg p2).trans p3⟩
  · obtain ⟨a, b, rfl⟩ : ∃ a b, l = [a, b] := by
      match l, h3 with
      | [a, b], _ => exact ⟨a, b, rfl⟩
    obtain ⟨p1, p2, p3⟩ := h a (by simp)
    obtain ⟨q1, q2, q3⟩ := h b (by simp)
    refine ⟨⟨by simp, p1, q1, trivial⟩, Tr.two h1 p2 q2, ?_⟩
    have e : lvs (.node o 0 (md a) (md b)) = (lvs (md a) && lvs (md b)) := lvs_two p2
    exact e.trans (by rw [p3, q3]; rfl)
theorem all_step (o k : Int) (l : List FT) (hl : l.length ≤ 4000000000000) (h : ∀ x ∈ l, AllE x) : AllE (.mk o k l) := by
  show Ev (fun n => f58_broughamref35_all n o k (l.map FT.un)) (fun r => r = true → AllP (.mk o k l))
  apply Ev.succ
  simp only [f58_broughamref35_all]
  refine Ev.bind (Ev2.diag (all_loop o k l hl h l.length 0 (by omega))) fun w hw => ?_
  rcases hw with rfl | ⟨rfl, hq⟩
  · exact Ev.some fun h => by cases h
  · refine Ev.bind (own_says o k (l.map FT.un)) fun r hr => Ev.some fun q => ?_
    rw [List.length_map] at hr
    exact all_fin hq (hr.1 q)
mutual
theorem allX_ev : ∀ x : FT, FT.ok x → AllE x
  | .mk o k l, h => all_step o k l (FT.ok_len h).1 (allXs_ev l (FT.ok_len h).2)
theorem allXs_ev : ∀ l : List FT, (∀ x ∈ l, FT.ok x) → ∀ x ∈ l, AllE x
  | [], _, x, h => by cases h
  | t :: r, ho, x, h => by
    rcases List.mem_cons.1 h with e | h
    · rw [e]; exact allX_ev t (ho t List.mem_cons_self)
    · exact allXs_ev r (fun y hy => ho y (List.mem_cons_of_mem _ hy)) x h
end
theorem rightR_ev (x : FT) (h : FT.ok x) : Ev (fun n => f30_broughamref35_Right n x.un.1 x.un.2.1 (x.un.2.2.map FT.un)) (fun r => r = true → AllP x) := by
  unfold f30_broughamref35_Right
  refine Ev.bind (dep_ev x h) fun r _ => Ev.ite (fun _ => Ev.bind (allX_ev x h) fun r hr => Ev.some hr) (fun _ => Ev.some fun q => by cases q)
/-! How many parts: whatever. -/
abbrev PtsE (x : FT) : Prop := Ev (fun n => f37_broughamlaw35_parts n x.un.1 x.un.2.1 (x.un.2.2.map FT.un) 100) (fun _ => True)
theorem pts_step (o k : Int) (l : List FT) (h : ∀ x ∈ l, PtsE x) : PtsE (.mk o k l) := by
  show Ev (fun n => f37_broughamlaw35_parts n o k (l.map FT.un) 100) (fun _ => True)
  apply Ev.succ
  simp only [f37_broughamlaw35_parts]
  match l, h with
  | [], h =>
    refine Ev.neg (by simp) (Ev.bind (P := fun _ => True) ?_ fun _ _ => Ev.some trivial)
    apply Ev.succ
    simp only [f37_broughamlaw35_parts_L5]
    exact Ev.neg (by simp) (Ev.some trivial)
  | [a], h =>
    refine Ev.neg (by simp) (Ev.bind (P := fun _ => True) ?_ fun _ _ => Ev.some trivial)
    apply Ev.succ
    simp only [f37_broughamlaw35_parts_L5]
    refine Ev.pos (by simp) (Ev.pos (by decide) (Ev.guard (by simp) (Ev.bind (Ev.sh (h a (by simp))) fun r hr => ?_)))
    apply Ev.succ
    simp only [f37_broughamlaw35_parts_L5]
    rw [show IntKind.wrap .i64 (0 + 1) = 1 from by decide]
    exact Ev.neg (by simp) (Ev.some trivial)
  | [a, b], h =>
    refine Ev.neg (by simp) (Ev.bind (P := fun _ => True) ?_ fun _ _ => Ev.some trivial)
    apply Ev.succ
    simp only [f37_broughamlaw35_parts_L5]
    refine Ev.pos (by simp) (Ev.pos (by decide) (Ev.guard (by simp) (Ev.bind (Ev.sh (h a (by simp))) fun r hr => ?_)))
    apply Ev.succ
    simp only [f37_broughamlaw35_parts_L5]
    rw [show IntKind.wrap .i64 (0 + 1) = 1 from by decide]
    refine Ev.pos (by simp) (Ev.ite (fun c => Ev.guard (by simp) (Ev.bind (Ev.sh (Ev.sh (h b (by simp)))) fun s hs => ?_)) (fun c => Ev.some trivial))
    apply Ev.succ
    simp only [f37_broughamlaw35_parts_L5]
    rw [show IntKind.wrap .i64 (1 + 1) = 2 from by decide]
    exact Ev.neg (by simp) (Ev.some trivial)
  | a :: b :: c :: r, h => exact Ev.pos (by simp; omega) (Ev.some trivial)
mutual
theorem pts_ev : ∀ x : FT, PtsE x
  | .mk o k l => pts_step o k l (ptss_ev l)
theorem ptss_ev : ∀ l : List FT, ∀ x ∈ l, PtsE x
  | [], x, h => by cases h
  | t :: r, x, h => by
    rcases List.mem_cons.1 h with e | h
    · rw [e]; exact pts_ev t
    · exact ptss_ev r x h
end
theorem both0 (n : Nat) : f38_filter_Both n [] = some (.node 1 0 .nil .nil) := by kernel_rfl
theorem both1 (n : Nat) (a : PT) : f38_filter_Both (n + 1) [a] = some a := by kernel_rfl
theorem both2 (n : Nat) (a b : PT) : f38_filter_Both (n + 2) [a, b] = some (.node 9 0 a b) := by kernel_rfl
theorem both_ev1 (a : PT) : Ev (fun n => f38_filter_Both n [a]) (fun r => r = a) := ⟨a, rfl, 1, fun n hn => by
  obtain ⟨m, rfl⟩ : ∃ m, n = m + 1 := ⟨n - 1, by omega⟩
  exact both1 m a⟩
theorem both_ev2 (a b : PT) : Ev (fun n => f38_filter_Both n [a, b]) (fun r => r = .node 9 0 a b) := ⟨_, rfl, 2, fun n hn => by
  obtain ⟨m, rfl⟩ : ∃ m, n = m + 2 := ⟨n - 2, by omega⟩
  exact both2 m a b⟩
def allT : PT := .node 1 0 .nil .nil
theorem allT_tr : Tr allT ∧ Good allT := ⟨.leaf (.inl rfl), rfl⟩
/-- Where it can't be deeper: true. -/
theorem deep_end : Ev (fun n => (f38_filter_Both n []).bind fun r => (f25_broughamlaw35_Plain n r 20).bind fun p => (f24_broughamref35_Same n p.1 p.2.1 p.2.2 1 0 []).bind fun q => if q = true then (f23_broughamlaw35_alive n).bind fun a => some a else some false) (fun r => r = true) := by
  refine Ev.bind (P := fun r => r = allT) ⟨_, rfl, 0, fun n _ => both0 n⟩ ?_
  rintro _ rfl
  refine Ev.bind (plainF_ev allT_tr.1 20 (by decide)) ?_
  rintro _ rfl
  refine Ev.bind (P := fun r => r = true) (sameF_ev allT_tr.1) ?_
  rintro _ rfl
  exact Ev.pos rfl (Ev.bind alive_ev (fun r hr => Ev.some hr))
/-- The end of the law. -/
theorem laws_end (s : Sg) (hs : s.o.length ≤ 1000000) {t : PT} (h : Tr t) (hd : dpt t ≤ 16) (f0 f1 : Int) (f2 : List FR) (hf : pf t = (f0, f1, f2)) :
    Ev (fun n => (f38_filter_Both n [t]).bind fun r => (f25_broughamlaw35_Plain n r 20).bind fun p => (f24_broughamref35_Same n p.1 p.2.1 p.2.2 f0 f1 f2).bind fun q => if q = true then (f38_filter_Both n []).bind fun u =>
      (f32_filter_Match n u s.a s.b s.c s.d s.e s.o s.x).bind fun v => if v = true then (f23_broughamlaw35_alive n).bind fun a => some a else some false else some false) (fun r => r = true) := by
  refine Ev.bind (both_ev1 t) ?_
  rintro _ rfl
  refine Ev.bind (plainF_ev h 20 (by omega)) ?_
  rintro _ rfl
  have hsm := sameF_ev h
  rw [hf] at hsm ⊢
  refine Ev.bind hsm ?_
  rintro _ rfl
  refine Ev.pos rfl (Ev.bind (P := fun r => r = allT) ⟨_, rfl, 0, fun n _ => both0 n⟩ ?_)
  rintro _ rfl
  refine Ev.bind (matchG_ev s hs allT_tr.1 allT_tr.2) ?_
  rintro _ rfl
  exact Ev.pos rfl (Ev.bind alive_ev (fun r hr => Ev.some hr))
theorem good_neg {t : PT} (h : Tr t) (g : Good (.node 8 0 t .nil)) : Good t ∧ dpt t ≤ 15 := by
  unfold Good at g ⊢
  rw [lvs_neg h, dpt_neg] at g
  simp only [Bool.and_eq_true, decide_eq_true_eq] at g ⊢
  exact ⟨⟨by omega, g.2⟩, by omega⟩
theorem good_two {o : Int} {t u : PT} (h : Tr t) (g : Good (.node o 0 t u)) : Good t ∧ Good u ∧ dpt t ≤ 15 ∧ dpt u ≤ 15 := by
  unfold Good at g ⊢
  rw [lvs_two h, dpt_two] at g
  simp only [Bool.and_eq_true, decide_eq_true_eq] at g ⊢
  exact ⟨⟨by omega, g.2.1⟩, ⟨by omega, g.2.2⟩, by omega, by omega⟩
theorem FilterLaws (x0 : Int × Int × List FT) (o0 : K.ok FK x0) (x1 : Int × Int × List FT) (o1 : K.ok FK x1) (x2 : Int × Int × Int × Int × Int × List (Int × List Int) × List Int)
    (o2 : K.ok (.pair (.int .u16) (.pair (.int .u16) (.pair (.int .u32) (.pair (.int .u32) (.pair (.int .u8) (.pair (.slice (.pair (.int .u8) (.slice (.int .u8)))) (.slice (.int .u8)))))))) x2) :
    ∃ n, f8_broughamlaw35_FilterLaws n x0.1 x0.2.1 (x0.2.2.map FT.un) x1.1 x1.2.1 (x1.2.2.map FT.un) x2.1 x2.2.1 x2.2.2.1 x2.2.2.2.1 x2.2.2.2.2.1 x2.2.2.2.2.2.1 x2.2.2.2.2.2.2 = some true := by
  apply Ev.true
  obtain ⟨s0, s1, s2, s3, s4, s5, s6⟩ := x2
  dsimp only
  clear o2
  have k0 : FT.ok (.of x0) := by obtain ⟨a, b, c⟩ := x0; exact o0
  have k1 : FT.ok (.of x1) := by obtain ⟨a, b, c⟩ := x1; exact o1
  have p0 : Ev (fun n => f37_broughamlaw35_parts n x0.1 x0.2.1 (x0.2.2.map FT.un) 100) (fun _ => True) := pts_ev (.of x0)
  have p1 : Ev (fun n => f37_broughamlaw35_parts n x1.1 x1.2.1 (x1.2.2.map FT.un) 100) (fun _ => True) := pts_ev (.of x1)
  have r0 : Ev (fun n => f30_broughamref35_Right n x0.1 x0.2.1 (x0.2.2.map FT.un)) (fun r => r = true → AllP (.of x0)) := rightR_ev (.of x0) k0
  have r1 : Ev (fun n => f30_broughamref35_Right n x1.1 x1.2.1 (x1.2.2.map FT.un)) (fun r => r = true → AllP (.of x1)) := rightR_ev (.of x1) k1
  have m0 : Ev (fun n => f28_broughamlaw35_Made n x0.1 x0.2.1 (x0.2.2.map FT.un)) (fun r => r = md (.of x0)) := made_ev (.of x0)
  have m1 : Ev (fun n => f28_broughamlaw35_Made n x1.1 x1.2.1 (x1.2.2.map FT.un)) (fun r => r = md (.of x1)) := made_ev (.of x1)
  unfold f8_broughamlaw35_FilterLaws
  refine Ev.bind p0 fun r _ => Ev.ite (fun _ => Ev.some rfl) (fun _ => Ev.bind p1 fun r _ => Ev.ite (fun _ => Ev.some rfl) (fun _ => ?_))
  refine Ev.bind r0 fun r hr0 => Ev.ite (fun _ => Ev.some rfl) (fun c0 => Ev.bind r1 fun r hr1 => Ev.ite (fun _ => Ev.some rfl) (fun c1 => ?_))
  obtain ⟨w0, t0, l0⟩ := hr0 (by simpa using c0)
  obtain ⟨w1, t1, l1⟩ := hr1 (by simpa using c1)
  have f0 : pf (md (.of x0)) = (x0.1, x0.2.1, x0.2.2.map FT.un) := pf_md (.of x0) w0
  refine Ev.bind (greatS_ev s0 s1 s2 s3 s4 s5 s6) fun r hg => Ev.ite (fun _ => Ev.some rfl) (fun c2 => ?_)
  obtain ⟨hs5, _⟩ := hg (by simpa using c2)
  generalize hS : (⟨s0, s1, s2, s3, s4, s5, s6⟩ : Sg) = s
  have hso : s.o.length ≤ 1000000 := by rw [← hS]; show s5.length ≤ 1000000; omega
  have q0 : s0 = s.a := by rw [← hS]
  have q1 : s1 = s.b := by rw [← hS]
  have q2 : s2 = s.c := by rw [← hS]
  have q3 : s3 = s.d := by rw [← hS]
  have q4 : s4 = s.e := by rw [← hS]
  have q5 : s5 = s.o := by rw [← hS]
  have q6 : s6 = s.x := by rw [← hS]
  rw [q0, q1, q2, q3, q4, q5, q6]
  refine Ev.bind m0 ?_
  rintro _ rfl
  refine Ev.bind m1 ?_
  rintro _ rfl
  generalize md (.of x0) = t at *
  generalize md (.of x1) = u at *
  have tn : Tr (.node 8 0 t .nil) := .neg t0
  have hto : Tr (.node 10 0 t u) := .two (.inr rfl) t0 t1
  have ta : Tr (.node 9 0 t u) := .two (.inl rfl) t0 t1
  refine Ev.bind (matchX_ev s hso t) fun x hx => Ev.bind (matchX_ev s hso u) fun y hy => Ev.bind (both_ev2 t u) ?_
  rintro _ rfl
  refine Ev.bind (rightX_ev (.node 8 0 t .nil)) fun rn hn => Ev.ite (fun _ => deep_end) (fun cn => Ev.bind (rightX_ev (.node 10 0 t u)) fun ro ho => Ev.ite (fun _ => deep_end) (fun co => ?_))
  have gn : Good (.node 8 0 t .nil) := (hn.1 (by simpa using cn)).2
  have go : Good (.node 10 0 t u) := (ho.1 (by simpa using co)).2
  obtain ⟨gt, gu, dt, du⟩ := good_two t0 go
  have ga : Good (.node 9 0 t u) := by
    unfold Good at go ⊢
    rw [lvs_two t0, dpt_two] at go ⊢; exact go
  have ex : x = mS s t := by
    rcases hx with ⟨_, _, e⟩ | ⟨e, _⟩
    · exact e
    · exact absurd ⟨t0, gt⟩ e
  have ey : y = mS s u := by
    rcases hy with ⟨_, _, e⟩ | ⟨e, _⟩
    · exact e
    · exact absurd ⟨t1, gu⟩ e
  have en : mS s (.node 8 0 t .nil) = !mS s t := by rw [mS, if_pos rfl]
  have ea : mS s (.node 9 0 t u) = (mS s t && mS s u) := by rw [mS, if_neg (by omega), if_pos rfl]
  have eo : mS s (.node 10 0 t u) = (mS s t || mS s u) := by rw [mS, if_neg (by omega), if_neg (by omega), if_pos rfl]
  have fin := laws_end s hso t0 (by omega) _ _ _ f0
  refine Ev.bind (matchG_ev s hso tn gn) ?_
  rintro _ rfl
  rw [en, ex]
  refine Ev.pos (by simp) (Ev.bind (matchG_ev s hso hto go) ?_)
  rintro _ rfl
  rw [eo, ey]
  cases hm : mS s t with
  | true =>
    refine Ev.pos rfl (Ev.pos rfl (Ev.bind (matchG_ev s hso ta ga) ?_))
    rintro _ rfl
    rw [ea, hm]
    exact Ev.pos rfl (Ev.pos (by simp) fin)
  | false =>
    refine Ev.neg (by simp) (Ev.pos (by simp) (Ev.bind (matchG_ev s hso ta ga) ?_))
    rintro _ rfl
    rw [ea, hm]
    exact Ev.neg (by simp) (Ev.pos (by simp) fin)
end Go.Proofs.YtakamchmiakicaaDoorF35d
