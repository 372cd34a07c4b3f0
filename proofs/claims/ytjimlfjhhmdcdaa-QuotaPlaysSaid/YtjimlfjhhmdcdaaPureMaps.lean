/- Maps of numbers as lists of pairs: what is read after a write, the sum of all. Plain Lean. -/
import Derived.Test.YtjimlfjhhmdcdaaZedPa
namespace Go.Proofs.YtjimlfjhhmdcdaaF39
open Go Zed
set_option linter.unusedVariables false
set_option linter.unusedSimpArgs false

abbrev M := List (Int × Int)
def gt : M → Int → Int
  | [], _ => 0
  | p :: l, i => if p.1 = i then p.2 else gt l i
def sm : M → Int
  | [] => 0
  | p :: l => p.2 + sm l
def others (l : M) (i : Int) : M := l.filter (fun p => p.1 != i)
theorem getM_is : ∀ (l : M) (i : Int), getM l i = gt l i
  | [], i => rfl
  | p :: l, i => by
    have ih := getM_is l i
    unfold getM at ih ⊢
    rw [List.findIdx?_cons, gt]
    by_cases h : p.1 = i
    · simp [h]
    · simp only [h, beq_iff_eq, if_false]
      rw [← ih]
      cases hf : l.findIdx? (fun p => p.1 == i) with
      | none => simp
      | some j => simp
def st : M → Int → Int → M
  | [], i, y => [(i, y)]
  | p :: l, i, y => if p.1 = i then (i, y) :: l else p :: st l i y
theorem setM_is : ∀ (l : M) (i y : Int), setM l i y = st l i y
  | [], i, y => rfl
  | p :: l, i, y => by
    have ih := setM_is l i y
    unfold setM at ih ⊢
    rw [List.findIdx?_cons, st]
    by_cases h : p.1 = i
    · simp [h]
    · simp only [h, beq_iff_eq, if_false]
      rw [← ih]
      cases hf : l.findIdx? (fun p => p.1 == i) with
      | none => simp
      | some j => simp
def dl : M → Int → M
  | [], i => []
  | p :: l, i => if p.1 = i then l else p :: dl l i
theorem delM_is : ∀ (l : M) (i : Int), delM l i = dl l i
  | [], i => rfl
  | p :: l, i => by
    have ih := delM_is l i
    unfold delM at ih ⊢
    rw [List.findIdx?_cons, dl]
    by_cases h : p.1 = i
    · simp [h]
    · simp only [h, beq_iff_eq, if_false]
      rw [← ih]
      cases hf : l.findIdx? (fun p => p.1 == i) with
      | none => simp
      | some j => simp
/-- Every key once. -/
def Once (l : M) : Prop := (l.map Prod.fst).Nodup
theorem gt_out : ∀ {l : M} {i : Int}, i ∉ l.map Prod.fst → gt l i = 0
  | [], i, h => rfl
  | p :: l, i, h => by
    simp only [List.map_cons, List.mem_cons, not_or] at h
    rw [gt, if_neg (fun q => h.1 q.symm)]; exact gt_out h.2
theorem gt_mem : ∀ {l : M}, Once l → ∀ {p : Int × Int}, p ∈ l → gt l p.1 = p.2
  | q :: l, h, p, hp => by
    have h' := List.nodup_cons.1 (show (q.1 :: l.map Prod.fst).Nodup from h)
    rcases List.mem_cons.1 hp with rfl | hp
    · rw [gt, if_pos rfl]
    · rw [gt, if_neg (fun (e : q.1 = p.1) => h'.1 (e ▸ List.mem_map_of_mem hp))]; exact gt_mem h'.2 hp
theorem others_out : ∀ {l : M} {i : Int}, i ∉ l.map Prod.fst → others l i = l := fun {l i} h => by
  refine List.filter_eq_self.2 fun p hp => ?_
  simp only [bne_iff_ne, ne_eq]
  exact fun e => h (e ▸ List.mem_map_of_mem hp)
theorem others_cons_eq {p : Int × Int} {l : M} {i : Int} (h : p.1 = i) : others (p :: l) i = others l i := by simp [others, h]
theorem others_cons_ne {p : Int × Int} {l : M} {i : Int} (h : p.1 ≠ i) : others (p :: l) i = p :: others l i := by simp [others, h]
theorem dl_is : ∀ {l : M} {i : Int}, Once l → dl l i = others l i
  | [], i, h => rfl
  | p :: l, i, h => by
    have h' := List.nodup_cons.1 (show (p.1 :: l.map Prod.fst).Nodup from h)
    rw [dl]
    by_cases e : p.1 = i
    · rw [if_pos e, others_cons_eq e, others_out (e ▸ h'.1)]
    · rw [if_neg e, others_cons_ne e, dl_is h'.2]
theorem st_is : ∀ {l : M} {i y : Int}, Once l → (st l i y).Perm (others l i ++ [(i, y)])
  | [], i, y, h => by simp [st, others]
  | p :: l, i, y, h => by
    have h' := List.nodup_cons.1 (show (p.1 :: l.map Prod.fst).Nodup from h)
    rw [st]
    by_cases e : p.1 = i
    · rw [if_pos e, others_cons_eq e, others_out (e ▸ h'.1)]
      exact (List.perm_append_singleton _ _).symm
    · rw [if_neg e, others_cons_ne e]; exact (st_is h'.2).cons p
theorem once_perm {l l' : M} (h : l.Perm l') (k : Once l) : Once l' := (h.map Prod.fst).nodup k
theorem once_others {l : M} (i : Int) (h : Once l) : Once (others l i) := h.sublist (List.Sublist.map _ List.filter_sublist)
theorem notmem_others (l : M) (i : Int) : i ∉ (others l i).map Prod.fst := by
  intro h
  obtain ⟨p, hp, e⟩ := List.mem_map.1 h
  have := (List.mem_filter.1 hp).2
  simp [e] at this
theorem once_add {l : M} {i : Int} (y : Int) (h : Once l) : Once (others l i ++ [(i, y)]) := by
  refine once_perm (List.perm_append_singleton _ _).symm ?_
  exact List.nodup_cons.2 ⟨notmem_others l i, once_others i h⟩
theorem gt_perm {l l' : M} (h : l.Perm l') (k : Once l) (i : Int) : gt l i = gt l' i := by
  by_cases hi : i ∈ l.map Prod.fst
  · obtain ⟨p, hp, rfl⟩ := List.mem_map.1 hi
    rw [gt_mem k hp, gt_mem (once_perm h k) (h.mem_iff.1 hp)]
  · rw [gt_out hi, gt_out (fun q => hi ((h.map Prod.fst).mem_iff.2 q))]
theorem gt_others : ∀ (l : M) (i j : Int), gt (others l i) j = if i = j then 0 else gt l j
  | [], i, j => by simp [others, gt]
  | p :: l, i, j => by
    by_cases e : p.1 = i
    · rw [others_cons_eq e, gt_others l i j, gt]
      by_cases e2 : i = j
      · rw [if_pos e2, if_pos e2]
      · rw [if_neg e2, if_neg e2, if_neg (fun q => e2 (e ▸ q))]
    · rw [others_cons_ne e, gt, gt_others l i j, gt]
      by_cases e2 : i = j
      · rw [if_pos e2, if_pos e2, if_neg (fun q => e (by rw [q, e2]))]
      · rw [if_neg e2, if_neg e2]
theorem gt_add (l : M) (i y j : Int) : gt (others l i ++ [(i, y)]) j = if i = j then y else gt l j := by
  have app : ∀ (a : M), i ∉ a.map Prod.fst → gt (a ++ [(i, y)]) j = if i = j then y else gt a j := by
    intro a
    induction a with
    | nil => intro _; simp [gt]
    | cons p a ih =>
      intro h
      simp only [List.map_cons, List.mem_cons, not_or] at h
      rw [List.cons_append, gt, ih h.2, gt]
      by_cases e : i = j
      · rw [if_pos e, if_pos e, if_neg (fun q => h.1 (by rw [q, e]))]
      · rw [if_neg e, if_neg e]
  rw [app _ (notmem_others l i), gt_others]
  split <;> rfl
theorem sm_app (a b : M) : sm (a ++ b) = sm a + sm b := by
  induction a with
  | nil => simp [sm]
  | cons p a ih => rw [List.cons_append, sm, ih, sm]; omega
theorem sm_perm {l l' : M} (h : l.Perm l') : sm l = sm l' := by
  induction h with
  | nil => rfl
  | cons x _ ih => rw [sm, sm, ih]
  | swap x y l => simp only [sm]; omega
  | trans _ _ h1 h2 => rw [h1, h2]
theorem sm_others : ∀ {l : M} {i : Int}, Once l → sm (others l i) = sm l - gt l i
  | [], i, h => by simp [others, sm, gt]
  | p :: l, i, h => by
    have h' := List.nodup_cons.1 (show (p.1 :: l.map Prod.fst).Nodup from h)
    by_cases e : p.1 = i
    · rw [others_cons_eq e, others_out (e ▸ h'.1), gt, if_pos e, sm]; omega
    · rw [others_cons_ne e, sm, sm_others h'.2, gt, if_neg e, sm]; omega
/-- The pool's list after an owner has so many. -/
def put (l : M) (i y : Int) : M := if y = 0 then others l i else others l i ++ [(i, y)]
def putM (l : M) (i y : Int) : M := if y = 0 then delM l i else setM l i y
theorem putM_perm {l : M} {i y : Int} (h : Once l) : (putM l i y).Perm (put l i y) := by
  unfold putM put
  split
  · rw [delM_is, dl_is h]
  · rw [setM_is]; exact st_is h
theorem once_put {l : M} {i y : Int} (h : Once l) : Once (put l i y) := by
  unfold put; split
  · exact once_others i h
  · exact once_add y h
theorem gt_put (l : M) (i y j : Int) : gt (put l i y) j = if i = j then y else gt l j := by
  unfold put
  split
  · rename_i h; rw [gt_others, h]
  · exact gt_add l i y j
theorem sm_put {l : M} {i y : Int} (h : Once l) : sm (put l i y) = sm l - gt l i + y := by
  unfold put
  split
  · rename_i e; rw [sm_others h, e]; omega
  · rw [sm_app, sm_others h]; simp [sm]
theorem once_putM {l : M} {i y : Int} (h : Once l) : Once (putM l i y) := once_perm (putM_perm h).symm (once_put h)
theorem gt_putM {l : M} (h : Once l) (i y j : Int) : gt (putM l i y) j = if i = j then y else gt l j := by
  rw [gt_perm (putM_perm h) (once_putM h), gt_put]
theorem sm_putM {l : M} {i y : Int} (h : Once l) : sm (putM l i y) = sm l - gt l i + y := by rw [sm_perm (putM_perm h), sm_put h]
/-- The keys are from 0 to a bound. -/
def Low (l : M) (k : Int) : Prop := ∀ p ∈ l, 0 ≤ p.1 ∧ p.1 < k
theorem low_putM {l : M} {i y k : Int} (h : Once l) (hl : Low l k) (hi : 0 ≤ i ∧ i < k) : Low (putM l i y) k := by
  intro p hp
  have hp := (putM_perm h).mem_iff.1 hp
  unfold put at hp
  split at hp
  · exact hl p (List.mem_filter.1 hp).1
  · rcases List.mem_append.1 hp with hp | hp
    · exact hl p (List.mem_filter.1 hp).1
    · simp only [List.mem_singleton] at hp; subst hp; exact hi
/-- The sum over the keys from 0 to a bound. -/
def upto (l : M) : Nat → Int
  | 0 => 0
  | n + 1 => upto l n + gt l n
theorem upto_cons {p : Int × Int} {l : M} (h : p.1 ∉ l.map Prod.fst) : ∀ n : Nat, upto (p :: l) n = (if 0 ≤ p.1 ∧ p.1 < n then p.2 else 0) + upto l n
  | 0 => by simp [upto]; omega
  | n + 1 => by
    rw [upto, upto_cons h n, upto, gt]
    by_cases e : p.1 = n
    · rw [if_pos e, if_neg (by omega), if_pos (by omega), gt_out (e ▸ h)]; omega
    · rw [if_neg e]
      by_cases e2 : 0 ≤ p.1 ∧ p.1 < n
      · rw [if_pos e2, if_pos (by omega)]; omega
      · rw [if_neg e2, if_neg (by omega)]; omega
theorem upto_sm : ∀ {l : M} {n : Nat}, Once l → Low l n → upto l n = sm l
  | [], n, h, hl => by
    have : ∀ n, upto [] n = 0 := fun n => by induction n with | zero => rfl | succ n ih => rw [upto, ih]; rfl
    rw [this]; rfl
  | p :: l, n, h, hl => by
    have h' := List.nodup_cons.1 (show (p.1 :: l.map Prod.fst).Nodup from h)
    rw [upto_cons h'.1, if_pos (hl p List.mem_cons_self), upto_sm h'.2 (fun q hq => hl q (List.mem_cons_of_mem _ hq)), sm]
end Go.Proofs.YtjimlfjhhmdcdaaF39
