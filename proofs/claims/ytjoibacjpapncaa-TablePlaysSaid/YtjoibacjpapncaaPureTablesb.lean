/- Tables of names: cells of which some are used, told as a list of names and numbers. Plain Lean. -/
import Derived.Test.YtjoibacjpapncaaPureLib40b
namespace Go.Proofs.YtjoibacjpapncaaF40b
open Go Zed
set_option linter.unusedVariables false
set_option linter.unusedSimpArgs false

abbrev M := List (Int × Int)
def gt : M → Int → Int
  | [], _ => 0
  | p :: l, i => if p.1 = i then p.2 else gt l i
def others (l : M) (i : Int) : M := l.filter (fun p => p.1 != i)
def Once (l : M) : Prop := (l.map Prod.fst).Nodup
theorem gt_out : ∀ {l : M} {i : Int}, i ∉ l.map Prod.fst → gt l i = 0
  | [], i, h => rfl
  | p :: l, i, h => by
    simp only [List.map_cons, List.mem_cons, not_or] at h
    rw [gt, if_neg (fun q => h.1 q.symm)]; exact gt_out h.2
theorem gt_mem : ∀ {l : M}, Once l → ∀ {p : Int × Int}, p ∈ l → gt l p.1 = p.2
  | q :: l, h, p, hp => by
    have h' := List.nodup_cons.1 (show (q.1 :: l.map Prod.fst).Nodup from h)
    rcases List.mem_cons.1 hp with rfl | hp
    · rw [gt, if_pos rfl]
    · rw [gt, if_neg (fun (e : q.1 = p.1) => h'.1 (e ▸ List.mem_map_of_mem hp))]; exact gt_mem h'.2 hp
theorem others_out : ∀ {l : M} {i : Int}, i ∉ l.map Prod.fst → others l i = l := fun {l i} h => by
  refine List.filter_eq_self.2 fun p hp => ?_
  simp only [bne_iff_ne, ne_eq]
  exact fun e => h (e ▸ List.mem_map_of_mem hp)
theorem others_cons_eq {p : Int × Int} {l : M} {i : Int} (h : p.1 = i) : others (p :: l) i = others l i := by simp [others, h]
theorem others_cons_ne {p : Int × Int} {l : M} {i : Int} (h : p.1 ≠ i) : others (p :: l) i = p :: others l i := by simp [others, h]
theorem once_perm {l l' : M} (h : l.Perm l') (k : Once l) : Once l' := (h.map Prod.fst).nodup k
theorem once_others {l : M} (i : Int) (h : Once l) : Once (others l i) := h.sublist (List.Sublist.map _ List.filter_sublist)
theorem notmem_others (l : M) (i : Int) : i ∉ (others l i).map Prod.fst := by
  intro h
  obtain ⟨p, hp, e⟩ := List.mem_map.1 h
  have := (List.mem_filter.1 hp).2
  simp [e] at this
theorem once_add {l : M} {i : Int} (y : Int) (h : Once l) : Once (others l i ++ [(i, y)]) := by
  refine once_perm (List.perm_append_singleton _ _).symm ?_
  exact List.nodup_cons.2 ⟨notmem_others l i, once_others i h⟩
theorem gt_perm {l l' : M} (h : l.Perm l') (k : Once l) (i : Int) : gt l i = gt l' i := by
  by_cases hi : i ∈ l.map Prod.fst
  · obtain ⟨p, hp, rfl⟩ := List.mem_map.1 hi
    rw [gt_mem k hp, gt_mem (once_perm h k) (h.mem_iff.1 hp)]
  · rw [gt_out hi, gt_out (fun q => hi ((h.map Prod.fst).mem_iff.2 q))]
theorem gt_others : ∀ (l : M) (i j : Int), gt (others l i) j = if i = j then 0 else gt l j
  | [], i, j => by simp [others, gt]
  | p :: l, i, j => by
    by_cases e : p.1 = i
    · rw [others_cons_eq e, gt_others l i j, gt]
      by_cases e2 : i = j
      · rw [if_pos e2, if_pos e2]
      · rw [if_neg e2, if_neg e2, if_neg (fun q => e2 (e ▸ q))]
    · rw [others_cons_ne e, gt, gt_others l i j, gt]
      by_cases e2 : i = j
      · rw [if_pos e2, if_pos e2, if_neg (fun q => e (by rw [q, e2]))]
      · rw [if_neg e2, if_neg e2]
theorem gt_add (l : M) (i y j : Int) : gt (others l i ++ [(i, y)]) j = if i = j then y else gt l j := by
  have app : ∀ (a : M), i ∉ a.map Prod.fst → gt (a ++ [(i, y)]) j = if i = j then y else gt a j := by
    intro a
    induction a with
    | nil => intro _; simp [gt]
    | cons p a ih =>
      intro h
      simp only [List.map_cons, List.mem_cons, not_or] at h
      rw [List.cons_append, gt, ih h.2, gt]
      by_cases e : i = j
      · rw [if_pos e, if_pos e, if_neg (fun q => h.1 (by rw [q, e]))]
      · rw [if_neg e, if_neg e]
  rw [app _ (notmem_others l i), gt_others]
  split <;> rfl
def put (l : M) (i y : Int) : M := if y = 0 then others l i else others l i ++ [(i, y)]
theorem once_put {l : M} {i y : Int} (h : Once l) : Once (put l i y) := by
  unfold put; split
  · exact once_others i h
  · exact once_add y h
theorem gt_put (l : M) (i y j : Int) : gt (put l i y) j = if i = j then y else gt l j := by
  unfold put
  split
  · rename_i h; rw [gt_others, h]
  · exact gt_add l i y j
/-! Cells. -/
abbrev Cell := Int × Int × Int
abbrev d0 : Cell := (0, 0, 0)
def ct (l : List Cell) : M := (l.filter fun c => c.1 == 1).map Prod.snd
theorem ct_app (a b : List Cell) : ct (a ++ b) = ct a ++ ct b := by simp [ct]
theorem ct_used {c : Cell} (h : c.1 = 1) (l : List Cell) : ct (c :: l) = c.2 :: ct l := by simp [ct, h]
theorem ct_not {c : Cell} (h : c.1 ≠ 1) (l : List Cell) : ct (c :: l) = ct l := by simp [ct, h]
theorem cut_at (l : List Cell) {p : Nat} (hp : p < l.length) : l = l.take p ++ l.getD p d0 :: l.drop (p + 1) := by
  have := drop_cons hp d0
  rw [← this, List.take_append_drop]
theorem set_cut (l : List Cell) {p : Nat} (hp : p < l.length) (c : Cell) : l.set p c = l.take p ++ c :: l.drop (p + 1) := by
  rw [List.set_eq_take_append_cons_drop, if_pos hp]
theorem getD_set (l : List Cell) {p q : Nat} (hp : p < l.length) (c : Cell) : (l.set p c).getD q d0 = if q = p then c else l.getD q d0 := by
  simp only [List.getD_eq_getElem?_getD, List.getElem?_set]
  by_cases h : p = q
  · subst h; simp [hp]
  · rw [if_neg h, if_neg (fun e => h e.symm)]
theorem ct_mem {l : List Cell} {a v : Int} : (a, v) ∈ ct l ↔ ∃ p, p < l.length ∧ l.getD p d0 = (1, a, v) := by
  unfold ct
  constructor
  · intro h
    obtain ⟨⟨s, a', v'⟩, hc, e⟩ := List.mem_map.1 h
    obtain ⟨h1, h2⟩ := List.mem_filter.1 hc
    simp only [Prod.mk.injEq, beq_iff_eq] at e h2
    obtain ⟨rfl, rfl⟩ := e
    subst h2
    obtain ⟨p, hp, e⟩ := List.getElem_of_mem h1
    exact ⟨p, hp, by rw [List.getD_eq_getElem?_getD, List.getElem?_eq_getElem hp, e]; rfl⟩
  · rintro ⟨p, hp, e⟩
    refine List.mem_map.2 ⟨(1, a, v), List.mem_filter.2 ⟨?_, by simp⟩, rfl⟩
    rw [← e]; exact getD_mem hp _
/-- A name is used at one place at most. -/
theorem uniq {l : List Cell} (h : Once (ct l)) {p q : Nat} (hp : p < l.length) (hq : q < l.length) (h1 : (l.getD p d0).1 = 1) (h2 : (l.getD q d0).1 = 1) (h3 : (l.getD p d0).2.1 = (l.getD q d0).2.1) : p = q := by
  have key : ∀ {p q : Nat}, p < q → q < l.length → (l.getD p d0).1 = 1 → (l.getD q d0).1 = 1 → (l.getD p d0).2.1 = (l.getD q d0).2.1 → False := by
    intro p q hpq hq h1 h2 h3
    have hp : p < l.length := by omega
    have e := cut_at l hp
    have hc : ct l = ct (l.take p) ++ ((l.getD p d0).2 :: ct (l.drop (p + 1))) := by
      rw [← ct_used h1, ← ct_app, ← e]
    have hm : (l.getD q d0).2 ∈ ct (l.drop (p + 1)) := by
      refine ct_mem.2 ⟨q - (p + 1), by rw [List.length_drop]; omega, ?_⟩
      rw [List.getD_eq_getElem?_getD, List.getElem?_drop, show p + 1 + (q - (p + 1)) = q by omega, ← List.getD_eq_getElem?_getD]
      exact Prod.ext h2 rfl
    have hn : Once (ct l) := h
    unfold Once at hn
    rw [hc, List.map_append, List.map_cons, List.nodup_append] at hn
    have := List.nodup_cons.1 hn.2.1
    exact this.1 (h3 ▸ List.mem_map_of_mem hm)
  rcases Nat.lt_trichotomy p q with h | h | h
  · exact (key h hq h1 h2 h3).elim
  · exact h
  · exact (key h hp h2 h1 h3.symm).elim
theorem ct_set_new (l : List Cell) {p : Nat} (hp : p < l.length) (h0 : (l.getD p d0).1 ≠ 1) (a v : Int) : (ct (l.set p (1, a, v))).Perm (ct l ++ [(a, v)]) := by
  rw [set_cut l hp, ct_app, ct_used rfl]
  have e : ct l = ct (l.take p) ++ ct (l.drop (p + 1)) := by
    conv => lhs; rw [cut_at l hp]
    rw [ct_app, ct_not h0]
  rw [e]
  exact List.perm_middle.trans (List.perm_append_singleton _ _).symm
theorem others_cut {A B : M} {a v : Int} (h : Once (A ++ (a, v) :: B)) : others (A ++ (a, v) :: B) a = A ++ B := by
  have h' : Once ((a, v) :: (A ++ B)) := once_perm List.perm_middle h
  have hn := (List.nodup_cons.1 (show (a :: (A ++ B).map Prod.fst).Nodup from h')).1
  rw [List.map_append] at hn
  have hA : others A a = A := others_out (fun q => hn (List.mem_append_left _ q))
  have hB : others B a = B := others_out (fun q => hn (List.mem_append_right _ q))
  have e : others (A ++ (a, v) :: B) a = others A a ++ others ((a, v) :: B) a := by unfold others; exact List.filter_append ..
  rw [e, others_cons_eq rfl, hA, hB]
theorem ct_set_same (l : List Cell) {p : Nat} (hp : p < l.length) (h1 : (l.getD p d0).1 = 1) (ho : Once (ct l)) (v : Int) : (ct (l.set p (1, (l.getD p d0).2.1, v))).Perm (others (ct l) (l.getD p d0).2.1 ++ [((l.getD p d0).2.1, v)]) := by
  have e : ct l = ct (l.take p) ++ ((l.getD p d0).2.1, (l.getD p d0).2.2) :: ct (l.drop (p + 1)) := by
    conv => lhs; rw [cut_at l hp]
    rw [ct_app, ct_used h1]
  rw [e] at ho
  rw [set_cut l hp, ct_app, ct_used rfl]
  conv => rhs; rw [e]
  rw [others_cut ho]
  exact List.perm_middle.trans (List.perm_append_singleton _ _).symm
theorem ct_set_gone (l : List Cell) {p : Nat} (hp : p < l.length) (h1 : (l.getD p d0).1 = 1) (ho : Once (ct l)) : ct (l.set p (2, 0, 0)) = others (ct l) (l.getD p d0).2.1 := by
  have e : ct l = ct (l.take p) ++ ((l.getD p d0).2.1, (l.getD p d0).2.2) :: ct (l.drop (p + 1)) := by
    conv => lhs; rw [cut_at l hp]
    rw [ct_app, ct_used h1]
  rw [e] at ho
  rw [set_cut l hp, ct_app, ct_not (by decide)]
  conv => rhs; rw [e]
  rw [others_cut ho]
/-- How many aren't free. -/
def dn (l : List Cell) : Nat := (l.filter fun c => c.1 != 0).length
theorem dn_app (a b : List Cell) : dn (a ++ b) = dn a + dn b := by simp [dn]
theorem dn_le (l : List Cell) : dn l ≤ l.length := List.length_filter_le _ _
theorem dn_cons (x : Cell) (b : List Cell) : dn (x :: b) = dn [x] + dn b := dn_app [x] b
theorem dn1 (x : Cell) : dn [x] = if x.1 = 0 then 0 else 1 := by
  by_cases h : x.1 = 0
  · rw [if_pos h]; simp [dn, h]
  · rw [if_neg h]; simp [dn, h]
theorem dn_set (l : List Cell) {p : Nat} (hp : p < l.length) (c : Cell) (hc : c.1 ≠ 0) : dn (l.set p c) = dn l + (if (l.getD p d0).1 = 0 then 1 else 0) := by
  have e : dn l = dn (l.take p) + (dn [l.getD p d0] + dn (l.drop (p + 1))) := by
    conv => lhs; rw [cut_at l hp]
    rw [dn_app, dn_cons]
  have e2 : dn (l.set p c) = dn (l.take p) + (dn [c] + dn (l.drop (p + 1))) := by
    rw [set_cut l hp, dn_app, dn_cons]
  rw [e, e2, dn1, dn1, if_neg hc]
  by_cases h : (l.getD p d0).1 = 0
  · rw [if_pos h, if_pos h]; omega
  · rw [if_neg h, if_neg h]; omega
theorem free_of {l : List Cell} (h : dn l < l.length) : ∃ p, p < l.length ∧ (l.getD p d0).1 = 0 := by
  by_cases hx : ∃ p, p < l.length ∧ (l.getD p d0).1 = 0
  · exact hx
  · exfalso
    have : l.filter (fun c => c.1 != 0) = l := by
      refine List.filter_eq_self.2 fun c hc => ?_
      obtain ⟨p, hp, e⟩ := List.getElem_of_mem hc
      simp only [bne_iff_ne, ne_eq]
      intro h0
      exact hx ⟨p, hp, by rw [List.getD_eq_getElem?_getD, List.getElem?_eq_getElem hp, e]; exact h0⟩
    unfold dn at h
    rw [this] at h; omega
/-- The place so many steps behind a home. -/
def ps (N h j : Nat) : Nat := (h + j) % N
theorem ps_lt {N : Nat} (hN : 0 < N) (h j : Nat) : ps N h j < N := Nat.mod_lt _ hN
theorem ps_succ {N : Nat} (hN : 0 < N) (h j : Nat) : (ps N h j + 1) % N = ps N h (j + 1) := by
  unfold ps; rw [Nat.mod_add_mod, Nat.add_assoc]
theorem ps_hits {N h p : Nat} (hh : h < N) (hp : p < N) : ∃ j, j < N ∧ ps N h j = p := by
  by_cases c : h ≤ p
  · exact ⟨p - h, by omega, by unfold ps; rw [show h + (p - h) = p by omega]; exact Nat.mod_eq_of_lt hp⟩
  · refine ⟨p + N - h, by omega, ?_⟩
    unfold ps; rw [show h + (p + N - h) = p + N by omega, Nat.add_mod_right]; exact Nat.mod_eq_of_lt hp
/-- Each used name is come to from its home. -/
def Reach (l : List Cell) (hm : Int → Nat) : Prop := ∀ p, p < l.length → (l.getD p d0).1 = 1 → ∃ j, j < l.length ∧ ps l.length (hm (l.getD p d0).2.1) j = p ∧ ∀ i, i < j → (l.getD (ps l.length (hm (l.getD p d0).2.1) i) d0).1 ≠ 0
theorem reach_set {l : List Cell} {hm : Int → Nat} (hr : Reach l hm) {p : Nat} (hp : p < l.length) (c : Cell) (hc : c.1 ≠ 0) (hn : c.1 = 1 → ∃ j, j < l.length ∧ ps l.length (hm c.2.1) j = p ∧ ∀ i, i < j → (l.getD (ps l.length (hm c.2.1) i) d0).1 ≠ 0) : Reach (l.set p c) hm := by
  intro q hq h1
  have more : ∀ r, (l.getD r d0).1 ≠ 0 → ((l.set p c).getD r d0).1 ≠ 0 := by
    intro r h
    rw [getD_set l hp]; split
    · exact hc
    · exact h
  rw [List.length_set] at hq ⊢
  rw [getD_set l hp] at h1 ⊢
  by_cases e : q = p
  · rw [if_pos e] at h1 ⊢
    obtain ⟨j, a, b, k⟩ := hn h1
    exact ⟨j, a, by rw [b, e], fun i hi => more _ (k i hi)⟩
  · rw [if_neg e] at h1 ⊢
    obtain ⟨j, a, b, k⟩ := hr q hq h1
    exact ⟨j, a, b, fun i hi => more _ (k i hi)⟩
end Go.Proofs.YtjoibacjpapncaaF40b
