/- Tables of names: what the functions that text F40 prints leave. -/
import Derived.Test.YtjoibacjpapncaaPureTablesb
namespace Go.Proofs.YtjoibacjpapncaaF40b
open Go Zed
set_option linter.unusedVariables false
set_option linter.unusedSimpArgs false

theorem sum_in (a b : Int) (l : List Int) : 0 ≤ sum a b l ∧ sum a b l < 18446744073709551616 := by
  unfold sum fin
  show 0 ≤ IntKind.u64.wrap _ ∧ IntKind.u64.wrap _ < _
  rw [w_u64]; omega
def hs (k0 k1 name : Int) : Int := sum k0 k1 (enc [(4, IntKind.wrap .u64 name)])
def hom (k0 k1 : Int) (N : Nat) (name : Int) : Nat := (hs k0 k1 name % (N : Int)).toNat
theorem hom_lt (k0 k1 : Int) {N : Nat} (hN : 0 < N) (name : Int) : hom k0 k1 N name < N := by
  unfold hom
  have h1 := Int.emod_nonneg (hs k0 k1 name) (show (N : Int) ≠ 0 by omega)
  have h2 := Int.emod_lt_of_pos (hs k0 k1 name) (show (0 : Int) < N by omega)
  omega
theorem home_is (k0 k1 name t3 t4 t5 : Int) (l : List Cell) (hl : 0 < l.length ∧ l.length ≤ 1024) : Ev (fun n => f129_table_Table_home n name k0 k1 t3 t4 t5 l) (fun r => r = ((hom k0 k1 l.length name : Int), k0, k1, t3, t4, t5, l)) := by
  unfold f129_table_Table_home f79_pack_W
  refine Ev.bind (Ev.of rfl rfl) ?_
  rintro _ rfl
  refine Ev.bind (put_is [] _ (by simp) (by simp) (fun f hf => ?_)) ?_
  · simp only [List.mem_singleton] at hf; subst hf; show 0 ≤ IntKind.wrap .u64 name; rw [w_u64]; omega
  rintro _ rfl
  rw [List.nil_append]
  have he : (enc [(4, IntKind.wrap .u64 name)]).length ≤ 8 := by have := enc_len [(4, IntKind.wrap .u64 name)]; simpa using this
  refine Ev.bind (sum_is k0 k1 _ (by simp) (fun x hx => ?_)) ?_
  · simp only [List.mem_singleton] at hx; subst hx; omega
  rintro _ rfl
  have hf : [enc [(4, IntKind.wrap .u64 name)]].flatten = enc [(4, IntKind.wrap .u64 name)] := by simp
  rw [hf]
  have hs0 := sum_in k0 k1 (enc [(4, IntKind.wrap .u64 name)])
  rw [u64_id (e := ((l.length : Nat) : Int)) (by omega) (by omega), tmod_e hs0.1]
  have h1 := Int.emod_nonneg (hs k0 k1 name) (show ((l.length : Nat) : Int) ≠ 0 by omega)
  have h2 := Int.emod_lt_of_pos (hs k0 k1 name) (show (0 : Int) < ((l.length : Nat) : Int) by omega)
  refine Ev.guard (by omega) (Ev.some ?_)
  show (IntKind.wrap .i64 (hs k0 k1 name % ((l.length : Nat) : Int)), _) = _
  rw [i64_id (by omega) (by omega)]
  have : ((hom k0 k1 l.length name : Nat) : Int) = hs k0 k1 name % ((l.length : Nat) : Int) := by unfold hom; omega
  rw [this]
/-- A name stands at a place. -/
def At_ (l : List Cell) (name : Int) (p : Nat) : Prop := (l.getD p d0).1 = 1 ∧ (l.getD p d0).2.1 = name
theorem step_nat {N p : Nat} (hp : p < N) (hN : N ≤ 1024) : Int.tmod (IntKind.wrap .i64 ((p : Int) + 1)) ((N : Nat) : Int) = (((p + 1) % N : Nat) : Int) := by
  rw [i64_id (by omega) (by omega), tmod_e (by omega)]; push_cast; rfl
theorem find_loop (k0 k1 name t3 t4 t5 : Int) (l : List Cell) (hl : 0 < l.length ∧ l.length ≤ 1024) (hr : Reach l (hom k0 k1 l.length)) : ∀ (d j : Nat) (hj : j + d = l.length) (hv : ∀ i, i < j → ¬ At_ l name (ps l.length (hom k0 k1 l.length name) i)),
    Ev (fun n => f96_table_Table_find_L3 n name (ps l.length (hom k0 k1 l.length name) j : Int) ((l.length : Nat) : Int) (j : Int) k0 k1 t3 t4 t5 l) (fun w => (∃ p, p < l.length ∧ At_ l name p ∧ w = .inr ((p : Int), k0, k1, t3, t4, t5, l)) ∨ ((∀ p, p < l.length → ¬ At_ l name p) ∧ w = .inl (k0, k1, t3, t4, t5, l)))
  | 0, j, hj, hv => by
    apply Ev.succ
    unfold f96_table_Table_find_L3
    refine Ev.neg (by simp only [decide_eq_true_eq]; omega) (Ev.some (.inr ⟨fun p hp hA => ?_, rfl⟩))
    obtain ⟨i, hi, e⟩ := ps_hits (hom_lt k0 k1 hl.1 name) hp
    exact hv i (by omega) (by rw [e]; exact hA)
  | d + 1, j, hj, hv => by
    have hp := ps_lt hl.1 (hom k0 k1 l.length name) j
    have next : ¬ At_ l name (ps l.length (hom k0 k1 l.length name) j) → Ev (fun n => f96_table_Table_find_L3 n name (Int.tmod (IntKind.wrap .i64 ((ps l.length (hom k0 k1 l.length name) j : Int) + 1)) ((l.length : Nat) : Int)) ((l.length : Nat) : Int) (IntKind.wrap .i64 ((j : Int) + 1)) k0 k1 t3 t4 t5 l) (fun w => (∃ p, p < l.length ∧ At_ l name p ∧ w = .inr ((p : Int), k0, k1, t3, t4, t5, l)) ∨ ((∀ p, p < l.length → ¬ At_ l name p) ∧ w = .inl (k0, k1, t3, t4, t5, l))) := by
      intro hn
      rw [step_nat hp hl.2, ps_succ hl.1, i64_id (e := (j : Int) + 1) (by omega) (by omega)]
      refine find_loop k0 k1 name t3 t4 t5 l hl hr d (j + 1) (by omega) (fun i hi => ?_)
      by_cases e : i = j
      · rw [e]; exact hn
      · exact hv i (by omega)
    apply Ev.succ
    unfold f96_table_Table_find_L3
    refine Ev.pos (by simp only [decide_eq_true_eq]; omega) (Ev.guard (by omega) ?_)
    rw [Int.toNat_natCast]
    refine Ev.ite (fun c => Ev.some (.inr ⟨fun p hpl hA => ?_, rfl⟩)) (fun c => ?_)
    · simp only [beq_iff_eq] at c
      obtain ⟨j', a, b, k⟩ := hr p hpl hA.1
      rw [hA.2] at b k
      rcases Nat.lt_trichotomy j' j with q | q | q
      · exact hv j' q (by rw [b]; exact hA)
      · subst q; rw [b, hA.1] at c; exact absurd c (by decide)
      · exact k j q c
    simp only [beq_iff_eq] at c
    refine Ev.ite (fun c2 => ?_) (fun c2 => ?_)
    · simp only [beq_iff_eq] at c2
      refine Ev.ite (fun c3 => Ev.some (.inl ⟨_, hp, ⟨c2, by simpa using c3⟩, rfl⟩)) (fun c3 => Ev.guard (by omega) (next (fun hA => c3 (by simpa using hA.2))))
    · simp only [beq_iff_eq] at c2
      exact Ev.guard (by omega) (next (fun hA => c2 hA.1))
theorem find_is (k0 k1 name t3 t4 t5 : Int) (l : List Cell) (hl : 0 < l.length ∧ l.length ≤ 1024) (hr : Reach l (hom k0 k1 l.length)) :
    Ev (fun n => f96_table_Table_find n name k0 k1 t3 t4 t5 l) (fun w => (∃ p : Nat, p < l.length ∧ At_ l name p ∧ w = ((p : Int), k0, k1, t3, t4, t5, l)) ∨ ((∀ p, p < l.length → ¬ At_ l name p) ∧ w = (-1, k0, k1, t3, t4, t5, l))) := by
  unfold f96_table_Table_find
  refine Ev.bind (home_is k0 k1 name t3 t4 t5 l hl) ?_
  rintro _ rfl
  have := find_loop k0 k1 name t3 t4 t5 l hl hr l.length 0 (by omega) (fun i hi => by omega)
  rw [show ps l.length (hom k0 k1 l.length name) 0 = hom k0 k1 l.length name by unfold ps; rw [Nat.add_zero]; exact Nat.mod_eq_of_lt (hom_lt k0 k1 hl.1 name)] at this
  refine Ev.bind this ?_
  rintro _ (⟨p, h1, h2, rfl⟩ | ⟨h1, rfl⟩)
  · exact Ev.some (.inl ⟨p, h1, h2, rfl⟩)
  · exact Ev.some (.inr ⟨h1, rfl⟩)
theorem lay_loop (k0 k1 name v t3 t4 t5 : Int) (l : List Cell) (hl : 0 < l.length ∧ l.length ≤ 1024) (jf : Nat) (hjf : jf < l.length) (hf : (l.getD (ps l.length (hom k0 k1 l.length name) jf) d0).1 = 0) : ∀ (d j : Nat) (hj : j + d = jf) (hv : ∀ i, i < j → (l.getD (ps l.length (hom k0 k1 l.length name) i) d0).1 = 1),
    Ev (fun n => f98_table_Table_lay_L1 n name v (ps l.length (hom k0 k1 l.length name) j : Int) k0 k1 t3 t4 t5 l) (fun w => ∃ j', j' < l.length ∧ (l.getD (ps l.length (hom k0 k1 l.length name) j') d0).1 ≠ 1 ∧ (∀ i, i < j' → (l.getD (ps l.length (hom k0 k1 l.length name) i) d0).1 = 1) ∧ w = (name, v, (ps l.length (hom k0 k1 l.length name) j' : Int), k0, k1, t3, t4, t5, l)) := by
  intro d
  induction d with
  | zero =>
    intro j hj hv
    have hp := ps_lt hl.1 (hom k0 k1 l.length name) j
    obtain rfl : j = jf := by omega
    apply Ev.succ
    unfold f98_table_Table_lay_L1
    refine Ev.guard (by omega) ?_
    rw [Int.toNat_natCast]
    refine Ev.neg (by rw [beq_iff_eq, hf]; decide) (Ev.some ⟨j, hjf, by rw [hf]; decide, hv, rfl⟩)
  | succ d ih =>
    intro j hj hv
    have hp := ps_lt hl.1 (hom k0 k1 l.length name) j
    apply Ev.succ
    unfold f98_table_Table_lay_L1
    refine Ev.guard (by omega) ?_
    rw [Int.toNat_natCast]
    refine Ev.ite (fun c => Ev.guard (by omega) ?_) (fun c => Ev.some ⟨j, by omega, by simpa using c, hv, rfl⟩)
    simp only [beq_iff_eq] at c
    rw [step_nat hp hl.2, ps_succ hl.1]
    refine ih (j + 1) (by omega) (fun i hi => ?_)
    by_cases e : i = j
    · rw [e]; exact c
    · exact hv i (by omega)
theorem lay_is (k0 k1 name v t3 t4 t5 : Int) (l : List Cell) (hl : 0 < l.length ∧ l.length ≤ 1024) (hr : Reach l (hom k0 k1 l.length)) (hd : dn l < l.length) (h3 : 0 ≤ t3 ∧ t3 ≤ 100000) (h4 : t4 = dn l) :
    Ev (fun n => f98_table_Table_lay n name v k0 k1 t3 t4 t5 l) (fun w => ∃ l', w = (k0, k1, t3 + 1, (dn l' : Int), t5, l') ∧ l'.length = l.length ∧ Reach l' (hom k0 k1 l.length) ∧ (ct l').Perm (ct l ++ [(name, v)]) ∧ dn l' ≤ dn l + 1) := by
  have hdl := dn_le l
  unfold f98_table_Table_lay
  refine Ev.bind (home_is k0 k1 name t3 t4 t5 l hl) ?_
  rintro _ rfl
  obtain ⟨pf, hpf, hf⟩ := free_of hd
  obtain ⟨jf, hjf, e⟩ := ps_hits (hom_lt k0 k1 hl.1 name) hpf
  have := lay_loop k0 k1 name v t3 t4 t5 l hl jf hjf (by rw [e]; exact hf) jf 0 (by omega) (fun i hi => by omega)
  rw [show ps l.length (hom k0 k1 l.length name) 0 = hom k0 k1 l.length name by unfold ps; rw [Nat.add_zero]; exact Nat.mod_eq_of_lt (hom_lt k0 k1 hl.1 name)] at this
  refine Ev.bind this ?_
  rintro _ ⟨j, hj, hn1, hall, rfl⟩
  have hp := ps_lt hl.1 (hom k0 k1 l.length name) j
  generalize hpj : ps l.length (hom k0 k1 l.length name) j = p at hp hn1
  have hds := dn_set l hp (1, name, v) (show (1 : Int) ≠ 0 by decide)
  have hR : Reach (l.set p (1, name, v)) (hom k0 k1 l.length) := reach_set hr hp _ (show (1 : Int) ≠ 0 by decide) (fun _ => ⟨j, hj, hpj, fun i hi => by rw [hall i hi]; decide⟩)
  have hC := ct_set_new l hp hn1 name v
  dsimp only
  refine Ev.guard (by omega) ?_
  rw [Int.toNat_natCast, i64_id (e := t3 + 1) (by omega) (by omega), i64_id (e := t4 + 1) (by omega) (by omega)]
  refine Ev.ite (fun c => Ev.guard (by omega) (Ev.some ⟨_, ?_, List.length_set, hR, hC, ?_⟩)) (fun c => Ev.guard (by omega) (Ev.some ⟨_, ?_, List.length_set, hR, hC, ?_⟩))
  · simp only [beq_iff_eq] at c
    rw [if_pos c] at hds
    rw [hds, h4]; rfl
  · simp only [beq_iff_eq] at c
    rw [if_pos c] at hds; omega
  · simp only [beq_iff_eq] at c
    rw [if_neg c] at hds
    rw [hds, h4]; rfl
  · simp only [beq_iff_eq] at c
    rw [if_neg c] at hds; omega
end Go.Proofs.YtjoibacjpapncaaF40b
