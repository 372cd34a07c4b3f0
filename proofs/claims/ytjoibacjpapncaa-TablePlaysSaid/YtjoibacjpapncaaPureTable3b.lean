/- Tables: what coming, going and asking leave: of the functions that text F40b prints. Conditions: none. -/
import Derived.Test.YtjoibacjpapncaaPureTable2b
namespace Go.Proofs.YtjoibacjpapncaaF40b
open Go Zed
set_option linter.unusedVariables false
set_option linter.unusedSimpArgs false

/-- A table that stands for a list of names and numbers. -/
structure Hd (k0 k1 most : Int) (l : List Cell) (many dirty : Int) (T : M) : Prop where
  hl : 0 < l.length ∧ l.length ≤ 1024
  hr : Reach l (hom k0 k1 l.length)
  perm : (ct l).Perm T
  once : Once T
  many : many = T.length
  dirty : dirty = dn l
  load : 4 * dn l ≤ 3 * l.length
  room : (T.length : Int) ≤ most
  most : 1 ≤ most ∧ most ≤ 256
section
variable {k0 k1 most many dirty : Int} {l : List Cell} {T : M} (h : Hd k0 k1 most l many dirty T)
include h
theorem Hd.ct_once : Once (ct l) := once_perm h.perm.symm h.once
theorem Hd.key {p : Nat} (hp : p < l.length) (h1 : (l.getD p d0).1 = 1) : (l.getD p d0).2 ∈ T := h.perm.mem_iff.1 (ct_mem.2 ⟨p, hp, Prod.ext h1 rfl⟩)
theorem Hd.none {name : Int} (hn : ∀ p, p < l.length → ¬ At_ l name p) : name ∉ T.map Prod.fst := by
  intro hm
  obtain ⟨⟨a, v⟩, hq, rfl⟩ := List.mem_map.1 hm
  obtain ⟨p, hp, e⟩ := ct_mem.1 (h.perm.mem_iff.2 hq)
  exact hn p hp ⟨by rw [e], by rw [e]⟩
end
theorem get_spec {k0 k1 most many dirty : Int} {l : List Cell} {T : M} (h : Hd k0 k1 most l many dirty T) (name : Int) :
    Ev (fun n => f53_table_Table_Get n name k0 k1 many dirty most l) (fun r => r = (gt T name, decide (name ∈ T.map Prod.fst), k0, k1, many, dirty, most, l)) := by
  unfold f53_table_Table_Get
  refine Ev.bind (find_is k0 k1 name many dirty most l h.hl h.hr) ?_
  rintro _ (⟨p, hp, hA, rfl⟩ | ⟨hn, rfl⟩)
  · refine Ev.neg (by simp only [decide_eq_true_eq]; omega) ?_
    dsimp only
    refine Ev.guard (by omega) (Ev.some ?_)
    have hk := h.key hp hA.1
    have hg := gt_mem h.once hk
    rw [hA.2] at hg
    have hin : name ∈ T.map Prod.fst := by rw [← hA.2]; exact List.mem_map_of_mem hk
    rw [Int.toNat_natCast, hg, decide_eq_true hin]
  · refine Ev.pos (by simp only [decide_eq_true_eq]; omega) (Ev.some ?_)
    have := h.none hn
    rw [gt_out this, decide_eq_false this]
/-- A name taken away. -/
theorem del_spec {k0 k1 most many dirty : Int} {l : List Cell} {T : M} (h : Hd k0 k1 most l many dirty T) (name : Int) :
    Ev (fun n => f51_table_Table_Delete n name k0 k1 many dirty most l) (fun r => ∃ many' dirty' l', r = (decide (name ∈ T.map Prod.fst), k0, k1, many', dirty', most, l') ∧ Hd k0 k1 most l' many' dirty' (others T name) ∧ l'.length = l.length) := by
  have hm := h.most; have hroom := h.room
  unfold f51_table_Table_Delete
  refine Ev.bind (find_is k0 k1 name many dirty most l h.hl h.hr) ?_
  rintro _ (⟨p, hp, hA, rfl⟩ | ⟨hn, rfl⟩)
  · refine Ev.neg (by simp only [decide_eq_true_eq]; omega) ?_
    dsimp only
    refine Ev.guard (by omega) ?_
    have hk := h.key hp hA.1
    have hin : name ∈ T.map Prod.fst := by rw [← hA.2]; exact List.mem_map_of_mem hk
    have hg := ct_set_gone l hp hA.1 h.ct_once
    rw [hA.2] at hg
    have hds := dn_set l hp (2, 0, 0) (show (2 : Int) ≠ 0 by decide)
    rw [if_neg (by rw [hA.1]; decide)] at hds
    have hperm : (ct (l.set p (2, 0, 0))).Perm (others T name) := by rw [hg]; exact h.perm.filter _
    have hlen : (others T name).length + 1 = T.length := by
      have e1 := ct_set_gone l hp hA.1 h.ct_once
      have e : ct l = ct (l.take p) ++ ((l.getD p d0).2.1, (l.getD p d0).2.2) :: ct (l.drop (p + 1)) := by
        conv => lhs; rw [cut_at l hp]
        rw [ct_app, ct_used hA.1]
      have e2 : others (ct l) name = ct (l.take p) ++ ct (l.drop (p + 1)) := by
        rw [← hA.2]
        have := h.ct_once
        rw [e] at this
        conv => lhs; rw [e]
        exact others_cut this
      have e3 := (h.perm.filter (fun q => q.1 != name)).length_eq
      have e4 := h.perm.length_eq
      rw [e] at e4
      have e5 : (others T name).length = (others (ct l) name).length := e3.symm
      rw [e2] at e5
      simp only [List.length_append, List.length_cons] at e4 e5
      omega
    have hmany := h.many
    refine Ev.some ⟨IntKind.wrap .i64 (many - 1), dirty, l.set p (2, 0, 0), ?_, ⟨{ hl := by rw [List.length_set]; exact h.hl, hr := by rw [List.length_set]; exact reach_set h.hr hp _ (show (2 : Int) ≠ 0 by decide) (fun e => absurd e (by decide)), perm := hperm, once := once_others name h.once, many := ?_, dirty := h.dirty.trans (by rw [hds]; rfl), load := by rw [List.length_set, hds]; exact h.load, room := by omega, most := hm }, by rw [List.length_set]⟩⟩
    · rw [Int.toNat_natCast, decide_eq_true hin]
    · rw [i64_id (by omega) (by omega)]; omega
  · refine Ev.pos (by simp only [decide_eq_true_eq]; omega) (Ev.some ⟨many, dirty, l, ?_, ?_⟩)
    · rw [decide_eq_false (h.none hn)]
    · rw [others_out (h.none hn)]; exact ⟨h, rfl⟩
/-- All used cells laid into new ones. -/
theorem grow_loop (k0 k1 most : Int) (l : List Cell) (hll : l.length ≤ 1024) (ho : Once (ct l)) (N : Nat) (hN : 0 < N ∧ N ≤ 1024) (hroom : (ct l).length < N) : ∀ (d i : Nat) (hi : i + d = l.length) (b : List Cell) (many dirty : Int) (hb : b.length = N) (hr : Reach b (hom k0 k1 N)) (hp : (ct b).Perm (ct (l.take i))) (hm : many = (ct b).length) (hd : dirty = dn b) (hdc : dn b ≤ (ct b).length),
    Ev (fun n => f97_table_Table_grow_L6 n ((l.length : Nat) : Int) (i : Int) k0 k1 many dirty most l b) (fun w => ∃ b' many' dirty', w = (k0, k1, many', dirty', most, l, b') ∧ b'.length = N ∧ Reach b' (hom k0 k1 N) ∧ (ct b').Perm (ct l) ∧ many' = (ct b').length ∧ dirty' = dn b' ∧ dn b' ≤ (ct b').length)
  | 0, i, hi, b, many, dirty, hb, hr, hp, hm, hd, hdc => by
    apply Ev.succ
    unfold f97_table_Table_grow_L6
    refine Ev.neg (by simp only [decide_eq_true_eq]; omega) (Ev.some ⟨b, many, dirty, rfl, hb, hr, ?_, hm, hd, hdc⟩)
    rw [List.take_of_length_le (by omega)] at hp; exact hp
  | d + 1, i, hi, b, many, dirty, hb, hr, hp, hm, hd, hdc => by
    have hil : i < l.length := by omega
    have e := cut_at l hil
    have et : l.take (i + 1) = l.take i ++ [l.getD i d0] := by
      rw [List.take_add_one]
      simp [List.getElem?_eq_getElem hil, List.getD_eq_getElem?_getD]
    have hle : (ct (l.take (i + 1))).length ≤ (ct l).length := by
      have : ct l = ct (l.take (i + 1)) ++ ct (l.drop (i + 1)) := by rw [← ct_app, List.take_append_drop]
      rw [this, List.length_append]; omega
    have hcl := hp.length_eq
    apply Ev.succ
    unfold f97_table_Table_grow_L6
    refine Ev.pos (by simp only [decide_eq_true_eq]; omega) (Ev.guard (by omega) ?_)
    rw [Int.toNat_natCast, i64_id (e := (i : Int) + 1) (by omega) (by omega)]
    refine Ev.ite (fun c => ?_) (fun c => ?_)
    · simp only [beq_iff_eq] at c
      have ec : ct (l.take (i + 1)) = ct (l.take i) ++ [(l.getD i d0).2] := by rw [et, ct_app, ct_used c]; rfl
      rw [ec, List.length_append, List.length_singleton] at hle
      have hlay := lay_is k0 k1 (l.getD i d0).2.1 (l.getD i d0).2.2 many dirty most b (by rw [hb]; exact hN) (by rw [hb]; exact hr) (by omega) (by omega) hd
      refine Ev.bind hlay ?_
      rintro _ ⟨b', rfl, q1, q2, q3, q4⟩
      have hq := q3.length_eq
      rw [List.length_append, List.length_singleton] at hq
      rw [hb] at q1 q2
      refine grow_loop k0 k1 most l hll ho N hN hroom d (i + 1) (by omega) b' _ _ q1 q2 ?_ (by rw [hq, hm]; rfl) rfl (by omega)
      rw [ec]
      exact q3.trans (hp.append_right _)
    · simp only [beq_iff_eq] at c
      have ec : ct (l.take (i + 1)) = ct (l.take i) := by rw [et, ct_app, ct_not c]; show _ ++ [] = _; simp
      exact grow_loop k0 k1 most l hll ho N hN hroom d (i + 1) (by omega) b many dirty hb hr (by rw [ec]; exact hp) hm hd hdc
theorem fresh_ct (N : Nat) : ct (List.replicate N (0, (0, 0))) = [] := by
  unfold ct; rw [List.filter_replicate]; simp
theorem fresh_dn (N : Nat) : dn (List.replicate N (0, (0, 0))) = 0 := by
  unfold dn; rw [List.filter_replicate]; simp
theorem fresh_reach (N : Nat) (hm : Int → Nat) : Reach (List.replicate N (0, (0, 0))) hm := by
  intro p hp h1
  rw [List.length_replicate] at hp
  simp [List.getD_eq_getElem?_getD, List.getElem?_replicate, hp] at h1
theorem grow_is {k0 k1 most many dirty : Int} {l : List Cell} {T : M} (h : Hd k0 k1 most l many dirty T) (hroom : (T.length : Int) < most) :
    Ev (fun n => f97_table_Table_grow n k0 k1 many dirty most l) (fun w => ∃ b many' dirty', w = (k0, k1, many', dirty', most, l, b) ∧ 0 < b.length ∧ b.length ≤ 1024 ∧ Reach b (hom k0 k1 b.length) ∧ (ct b).Perm T ∧ many' = T.length ∧ dirty' = dn b ∧ 4 * (dn b + 1) ≤ 3 * b.length ∧ (b.length = l.length ∨ b.length < 4 * (T.length + 1))) := by
  have hl := h.hl; have hm := h.most; have hmany := h.many; have hload := h.load; have hpl := h.perm.length_eq
  have hctd : (ct l).length ≤ dn l := by
    unfold ct dn
    rw [List.length_map]
    have : ∀ l : List Cell, (l.filter fun c => c.1 == 1).length ≤ (l.filter fun c => c.1 != 0).length := by
      intro l
      induction l with
      | nil => simp
      | cons c l ih =>
        by_cases h1 : c.1 = 1
        · simp [h1]; exact ih
        · by_cases h2 : c.1 = 0
          · simp [h2]; exact ih
          · simp [h1, h2]; exact Nat.le_succ_of_le ih
    exact this l
  have go : ∀ (N : Nat), 0 < N → N ≤ 1024 → 2 * (T.length + 1) ≤ N → (N = l.length ∨ N < 4 * (T.length + 1)) → Ev (fun n => (f97_table_Table_grow_L6 n ((l.length : Nat) : Int) 0 k0 k1 0 0 most l (List.replicate N (0, (0, 0)))).bind fun w158 =>
    some (w158.1, w158.2.1, w158.2.2.1, w158.2.2.2.1, w158.2.2.2.2.1, w158.2.2.2.2.2.1, w158.2.2.2.2.2.2)) (fun w => ∃ b many' dirty', w = (k0, k1, many', dirty', most, l, b) ∧ 0 < b.length ∧ b.length ≤ 1024 ∧ Reach b (hom k0 k1 b.length) ∧ (ct b).Perm T ∧ many' = T.length ∧ dirty' = dn b ∧ 4 * (dn b + 1) ≤ 3 * b.length ∧ (b.length = l.length ∨ b.length < 4 * (T.length + 1))) := by
    intro N hN hN2 h2 h3
    have := grow_loop k0 k1 most l hl.2 h.ct_once N ⟨hN, hN2⟩ (by omega) l.length 0 (by omega) (List.replicate N (0, (0, 0))) 0 0 List.length_replicate (fresh_reach N _) (by rw [fresh_ct]; exact List.Perm.refl _) (by rw [fresh_ct]; rfl) (by rw [fresh_dn]; rfl) (by rw [fresh_dn]; omega)
    refine Ev.bind this ?_
    rintro _ ⟨b, many', dirty', rfl, q1, q2, q3, q4, q5, q6⟩
    have hq := (q3.trans h.perm).length_eq
    exact Ev.some ⟨b, many', dirty', rfl, by omega, by omega, by rw [q1]; exact q2, q3.trans h.perm, by rw [q4, hq], q5, by omega, by omega⟩
  unfold f97_table_Table_grow
  rw [i64_id (e := many + 1) (by omega) (by omega), i64_id (e := 2 * (many + 1)) (by omega) (by omega), i64_id (e := ((l.length : Nat) : Int) * 2) (by omega) (by omega), show (((l.length : Nat) : Int) * 2).toNat = l.length * 2 by omega, Int.toNat_natCast]
  refine Ev.ite (fun c => ?_) (fun c => ?_)
  · simp only [decide_eq_true_eq] at c
    exact Ev.guard (by omega) (go (l.length * 2) (by omega) (by omega) (by omega) (by omega))
  · simp only [decide_eq_true_eq] at c
    exact Ev.guard (by omega) (go l.length (by omega) (by omega) (by omega) (by omega))
/-- What a name's coming leaves. -/
def putOk (most : Int) (T : M) (name : Int) : Bool := decide (name ∈ T.map Prod.fst) || !decide ((T.length : Int) ≥ most)
def putT (most : Int) (T : M) (name v : Int) : M := if name ∈ T.map Prod.fst then others T name ++ [(name, v)] else if (T.length : Int) ≥ most then T else T ++ [(name, v)]
theorem put_spec {k0 k1 most many dirty : Int} {l : List Cell} {T : M} (h : Hd k0 k1 most l many dirty T) (name v : Int) :
    Ev (fun n => f52_table_Table_Put n name v k0 k1 many dirty most l) (fun r => ∃ many' dirty' old l', r = (putOk most T name, k0, k1, many', dirty', most, old, l') ∧ Hd k0 k1 most l' many' dirty' (putT most T name v) ∧ (l'.length = l.length ∨ l'.length < 4 * (putT most T name v).length)) := by
  have hl := h.hl; have hm := h.most; have hroom := h.room; have hmany := h.many; have hload := h.load; have hdirty := h.dirty; have hdl := dn_le l
  unfold f52_table_Table_Put putOk putT
  refine Ev.bind (find_is k0 k1 name many dirty most l h.hl h.hr) ?_
  rintro _ (⟨p, hp, hA, rfl⟩ | ⟨hn, rfl⟩)
  · have hk := h.key hp hA.1
    have hin : name ∈ T.map Prod.fst := by rw [← hA.2]; exact List.mem_map_of_mem hk
    rw [if_pos hin, decide_eq_true hin]
    refine Ev.pos (by simp only [decide_eq_true_eq]; omega) ?_
    dsimp only
    refine Ev.guard (by omega) ?_
    rw [Int.toNat_natCast, hA.1]
    have hperm := ct_set_same l hp hA.1 h.ct_once v
    rw [hA.2] at hperm ⊢
    have hds := dn_set l hp (1, name, v) (show (1 : Int) ≠ 0 by decide)
    rw [if_neg (by rw [hA.1]; decide)] at hds
    have hperm2 : (ct (l.set p (1, name, v))).Perm (others T name ++ [(name, v)]) := hperm.trans ((h.perm.filter _).append_right _)
    have hlen : (others T name ++ [(name, v)]).length = T.length := by
      have e1 := hperm2.length_eq
      have e2 : ct l = ct (l.take p) ++ ((l.getD p d0).2.1, (l.getD p d0).2.2) :: ct (l.drop (p + 1)) := by
        conv => lhs; rw [cut_at l hp]
        rw [ct_app, ct_used hA.1]
      have e3 : ct (l.set p (1, name, v)) = ct (l.take p) ++ (name, v) :: ct (l.drop (p + 1)) := by rw [set_cut l hp, ct_app, ct_used rfl]
      have e4 := h.perm.length_eq
      rw [e2] at e4; rw [e3] at e1
      simp only [List.length_append, List.length_cons] at e1 e4 ⊢
      omega
    have hR : Reach (l.set p (1, name, v)) (hom k0 k1 (l.set p (1, name, v)).length) := by
      rw [List.length_set]
      refine reach_set h.hr hp _ (show (1 : Int) ≠ 0 by decide) (fun _ => ?_)
      have := h.hr p hp hA.1
      rw [hA.2] at this; exact this
    exact Ev.some ⟨_, _, _, _, rfl, ⟨{ hl := by rw [List.length_set]; exact h.hl, hr := hR, perm := hperm2, once := once_add v h.once, many := by rw [hlen]; exact h.many, dirty := h.dirty.trans (by rw [hds]; rfl), load := by rw [List.length_set, hds]; exact h.load, room := by rw [hlen]; exact h.room, most := hm }, .inl (by rw [List.length_set])⟩⟩
  · have hno := h.none hn
    rw [if_neg hno, decide_eq_false hno]
    refine Ev.neg (by simp only [decide_eq_true_eq]; omega) ?_
    refine Ev.ite (fun c => Ev.some ⟨many, dirty, l, l, ?_, ?_⟩) (fun c => ?_)
    · simp only [decide_eq_true_eq] at c
      rw [decide_eq_true (show (T.length : Int) ≥ most by omega)]; rfl
    · simp only [decide_eq_true_eq] at c
      rw [if_pos (show (T.length : Int) ≥ most by omega)]; exact ⟨h, .inl rfl⟩
    simp only [decide_eq_true_eq] at c
    rw [if_neg (show ¬ (T.length : Int) ≥ most by omega), decide_eq_false (show ¬ (T.length : Int) ≥ most by omega)]
    dsimp only
    rw [i64_id (e := dirty + 1) (by omega) (by omega), i64_id (e := 4 * (dirty + 1)) (by omega) (by omega), i64_id (e := 3 * ((l.length : Nat) : Int)) (by omega) (by omega)]
    have hone : Once (T ++ [(name, v)]) := once_perm (List.perm_append_singleton _ _).symm (List.nodup_cons.2 ⟨hno, h.once⟩)
    have hlen : (T ++ [(name, v)]).length = T.length + 1 := by simp
    refine Ev.ite (fun c2 => ?_) (fun c2 => ?_)
    · refine Ev.bind (grow_is h (by omega)) ?_
      rintro _ ⟨b, many', dirty', rfl, b1, b2, b3, b4, b5, b6, b7, b8⟩
      have hdb := dn_le b
      refine Ev.bind (lay_is k0 k1 name v many' dirty' most b ⟨b1, b2⟩ b3 (by omega) (by omega) b6) ?_
      rintro _ ⟨l', rfl, q1, q2, q3, q4⟩
      refine Ev.some ⟨many' + 1, (dn l' : Int), l, l', rfl, ⟨{ hl := by rw [q1]; exact ⟨b1, b2⟩, hr := by rw [q1]; exact q2, perm := q3.trans (b4.append_right _), once := hone, many := by rw [hlen, b5]; rfl, dirty := rfl, load := by omega, room := by omega, most := hm }, by rw [q1, hlen]; exact b8⟩⟩
    · simp only [decide_eq_true_eq] at c2
      refine Ev.bind (lay_is k0 k1 name v many dirty most l hl h.hr (by omega) (by omega) h.dirty) ?_
      rintro _ ⟨l', rfl, q1, q2, q3, q4⟩
      refine Ev.some ⟨many + 1, (dn l' : Int), l', l', rfl, ⟨{ hl := by rw [q1]; exact hl, hr := by rw [q1]; exact q2, perm := q3.trans (h.perm.append_right _), once := hone, many := by rw [hlen, hmany]; rfl, dirty := rfl, load := by omega, room := by omega, most := hm }, .inl q1⟩⟩
end Go.Proofs.YtjoibacjpapncaaF40b
