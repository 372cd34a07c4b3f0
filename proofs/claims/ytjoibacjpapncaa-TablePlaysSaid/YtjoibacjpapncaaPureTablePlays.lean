/- TablePlays: whatever names come and go, each has the document's number, whichever the key is: of the functions that text F40b prints. Conditions: none. -/
import Derived.Test.YtjoibacjpapncaaPureIns40b
namespace Go.Proofs.YtjoibacjpapncaaF40b
open Go Zed
set_option linter.unusedVariables false
set_option linter.unusedSimpArgs false

theorem names_loop (k0 k1 t3 t4 t5 : Int) (values : List Int) (hv : values.length ≤ 100) (l : List Cell) (hll : l.length ≤ 1024) : ∀ (d i : Nat) (hi : i + d = l.length) (b : List Int) (hb : b.length ≤ i) (hu : Up b) (hp : b.Perm (((ct (l.take i)).filter (nv values)).map Prod.fst)),
    Ev (fun n => f56_table_Table_Names_L3 n values ((l.length : Nat) : Int) (i : Int) k0 k1 t3 t4 t5 l b) (fun w => ∃ b', w = (k0, k1, t3, t4, t5, l, b') ∧ Up b' ∧ b'.length ≤ 1024 ∧ b'.Perm (((ct l).filter (nv values)).map Prod.fst))
  | 0, i, hi, b, hb, hu, hp => by
    apply Ev.succ
    unfold f56_table_Table_Names_L3
    rw [List.take_of_length_le (by omega)] at hp
    exact Ev.neg (by simp only [decide_eq_true_eq]; omega) (Ev.some ⟨b, rfl, hu, by omega, hp⟩)
  | d + 1, i, hi, b, hb, hu, hp => by
    have hil : i < l.length := by omega
    have et : l.take (i + 1) = l.take i ++ [l.getD i d0] := by
      rw [List.take_add_one]
      simp [List.getElem?_eq_getElem hil, List.getD_eq_getElem?_getD]
    have add : ∀ c : Cell, c = l.getD i d0 → c.1 = 1 → nv values c.2 = true → Ev (fun n => (f100_table_insert_v2 n c.2.1 b).bind fun r =>
        f56_table_Table_Names_L3 n values ((l.length : Nat) : Int) ((i : Int) + 1) k0 k1 t3 t4 t5 l r.2) (fun w => ∃ b', w = (k0, k1, t3, t4, t5, l, b') ∧ Up b' ∧ b'.length ≤ 1024 ∧ b'.Perm (((ct l).filter (nv values)).map Prod.fst)) := by
      rintro c rfl c1 cn
      have ec : (ct (l.take (i + 1))).filter (nv values) = (ct (l.take i)).filter (nv values) ++ [(l.getD i d0).2] := by
        rw [et, ct_app, ct_used c1, List.filter_append, List.filter_cons, if_pos cn]; rfl
      refine Ev.bind (insert_is _ b (by omega) hu) ?_
      intro r hr
      rw [hr]
      have hpi := ins_perm (l.getD i d0).2.1 b
      refine names_loop k0 k1 t3 t4 t5 values hv l hll d (i + 1) (by omega) _ ?_ (ins_up _ b hu) ?_
      · have := hpi.length_eq; rw [List.length_cons] at this; show (ins (l.getD i d0).2.1 b).length ≤ i + 1; omega
      · rw [ec, List.map_append]
        exact hpi.trans ((hp.cons _).trans (List.perm_append_singleton _ _).symm)
    have skip : (ct (l.take (i + 1))).filter (nv values) = (ct (l.take i)).filter (nv values) → Ev (fun n => f56_table_Table_Names_L3 n values ((l.length : Nat) : Int) ((i : Int) + 1) k0 k1 t3 t4 t5 l b) (fun w => ∃ b', w = (k0, k1, t3, t4, t5, l, b') ∧ Up b' ∧ b'.length ≤ 1024 ∧ b'.Perm (((ct l).filter (nv values)).map Prod.fst)) := by
      intro ec
      exact names_loop k0 k1 t3 t4 t5 values hv l hll d (i + 1) (by omega) b (by omega) hu (by rw [ec]; exact hp)
    apply Ev.succ
    unfold f56_table_Table_Names_L3
    refine Ev.pos (by simp only [decide_eq_true_eq]; omega) (Ev.guard (by omega) ?_)
    rw [Int.toNat_natCast, i64_id (e := (i : Int) + 1) (by omega) (by omega)]
    refine Ev.ite (fun c => ?_) (fun c => ?_)
    · simp only [beq_iff_eq] at c
      refine Ev.ite (fun c2 => ?_) (fun c2 => ?_)
      · exact add _ rfl c (by unfold nv; rw [c2]; rfl)
      · refine Ev.bind (contains_is values hv _) ?_
        rintro _ rfl
        refine Ev.ite (fun c3 => ?_) (fun c3 => ?_)
        · exact add _ rfl c (by unfold nv; rw [c3, Bool.or_true])
        · refine skip ?_
          have hn : nv values (l.getD i d0).2 = false := by
            unfold nv
            have c2' : ((((values.length : Nat) : Int) : Int) == 0) = false := by simpa using c2
            have c3' : decide ((l.getD i d0).2.2 ∈ values) = false := by
              cases hq : decide ((l.getD i d0).2.2 ∈ values)
              · rfl
              · exact absurd hq c3
            rw [c2', c3']; rfl
          rw [et, ct_app, ct_used c, List.filter_append, List.filter_cons, if_neg (by rw [show nv values (l.getD i (0, 0, 0)).2 = false from hn]; simp)]; show _ ++ [] = _; simp
    · simp only [beq_iff_eq] at c
      refine skip ?_
      rw [et, ct_app, ct_not c]; show List.filter _ (_ ++ []) = _; simp
theorem names_spec {k0 k1 most many dirty : Int} {l : List Cell} {T : M} (h : Hd k0 k1 most l many dirty T) (values : List Int) (hv : values.length ≤ 100) :
    Ev (fun n => f56_table_Table_Names n values k0 k1 many dirty most l) (fun r => ∃ b, r = (k0, k1, many, dirty, most, l, b) ∧ Up b ∧ b.length ≤ 1024 ∧ b.Perm ((T.filter (nv values)).map Prod.fst)) := by
  unfold f56_table_Table_Names
  refine Ev.bind (names_loop k0 k1 many dirty most values hv l h.hl.2 l.length 0 (by omega) [] (by simp) List.Pairwise.nil (List.Perm.refl _)) ?_
  rintro _ ⟨b, rfl, q1, q2, q3⟩
  exact Ev.some ⟨b, rfl, q1, q2, q3.trans ((h.perm.filter _).map _)⟩
theorem rise_names {T : M} (h : Rise T) (values : List Int) : Up ((T.filter (nv values)).map Prod.fst) := by
  unfold Up
  rw [List.pairwise_map]
  exact List.Pairwise.sublist List.filter_sublist h
theorem row_loop (b : List Int) (hb : b.length ≤ 1024) : ∀ (d i : Nat) (hi : i + d = b.length), Ev (fun n => f55_broughamlaw40_row_L4 n b (i : Int) b) (fun w => w = .inr b)
  | 0, i, hi => by
    apply Ev.succ
    unfold f55_broughamlaw40_row_L4
    exact Ev.neg (by simp only [decide_eq_true_eq]; omega) (Ev.some rfl)
  | d + 1, i, hi => by
    apply Ev.succ
    unfold f55_broughamlaw40_row_L4
    refine Ev.pos (by simp only [decide_eq_true_eq]; omega) (Ev.guard (by omega) (Ev.guard (by omega) (Ev.neg (by simp) ?_)))
    rw [i64_id (e := (i : Int) + 1) (by omega) (by omega)]
    exact row_loop b hb d (i + 1) (by omega)
theorem row_is (b : List Int) (hb : b.length ≤ 1024) : Ev (fun n => f55_broughamlaw40_row n b b) (fun r => r.1 = true) := by
  unfold f55_broughamlaw40_row
  refine Ev.neg (by simp) ?_
  refine Ev.bind (row_loop b hb b.length 0 (by omega)) ?_
  rintro _ rfl
  exact Ev.some rfl
theorem Hd.of_perm {k0 k1 most many dirty : Int} {l : List Cell} {T T' : M} (h : Hd k0 k1 most l many dirty T) (hp : T.Perm T') : Hd k0 k1 most l many dirty T' where
  hl := h.hl
  hr := h.hr
  perm := h.perm.trans hp
  once := once_perm hp h.once
  many := by rw [h.many, hp.length_eq]
  dirty := h.dirty
  load := h.load
  room := by rw [← hp.length_eq]; exact h.room
  most := h.most
/-- What stands behind each call of a table: how many names, how many places. -/
theorem tail {α : Type} {k0 k1 many dirty most g len : Int} {l : List Cell} {P : Bool ⊕ α → Prop} (K : Nat → Int → Int → Int → Int → Int → List Cell → Option (Bool ⊕ α)) (hm : many = len) (hg : 0 ≤ g ∧ g ≤ 300) (hp : l.length = 8 ∨ (l.length : Int) ≤ 4 * g)
    (hK : Ev (fun n => K n k0 k1 many dirty most l) P) :
    Ev (fun n => (f54_table_Table_Len k0 k1 many dirty most l).bind fun a =>
      if ((a.1 : Int) != len) = true then some (.inl false)
      else (f62_table_Table_Places a.2.1 a.2.2.1 a.2.2.2.1 a.2.2.2.2.1 a.2.2.2.2.2.1 a.2.2.2.2.2.2).bind fun b =>
        if (decide ((b.1 : Int) > 8)) = true then
          (f62_table_Table_Places b.2.1 b.2.2.1 b.2.2.2.1 b.2.2.2.2.1 b.2.2.2.2.2.1 b.2.2.2.2.2.2).bind fun c =>
          if (decide ((c.1 : Int) > (IntKind.wrap .i64 (4 * g)))) = true then some (.inl false)
          else K n c.2.1 c.2.2.1 c.2.2.2.1 c.2.2.2.2.1 c.2.2.2.2.2.1 c.2.2.2.2.2.2
        else K n b.2.1 b.2.2.1 b.2.2.2.1 b.2.2.2.2.1 b.2.2.2.2.2.1 b.2.2.2.2.2.2) P := by
  unfold f54_table_Table_Len f62_table_Table_Places
  refine Ev.bind (Ev.of rfl rfl) ?_
  rintro _ rfl
  refine Ev.neg (by simp [hm]) ?_
  refine Ev.bind (Ev.of rfl rfl) ?_
  rintro _ rfl
  dsimp only
  refine Ev.ite (fun c => ?_) (fun c => hK)
  simp only [decide_eq_true_eq] at c
  refine Ev.bind (Ev.of rfl rfl) ?_
  rintro _ rfl
  dsimp only
  rw [i64_id (by omega) (by omega)]
  exact Ev.neg (by simp only [decide_eq_true_eq]; omega) hK
def mo (x : Int) : Int := if 256 < (if x < 1 then 1 else x) then 256 else (if x < 1 then 1 else x)
theorem most_is (x : Int) : Ev (fun n => f61_broughamlaw40_most x) (fun r => r = mo x) := by
  unfold f61_broughamlaw40_most mo
  refine Ev.ite (fun c => Ev.some ?_) (fun c => Ev.ite (fun c2 => Ev.some ?_) (fun c2 => Ev.some ?_))
  · simp only [decide_eq_true_eq] at c; rw [if_pos c]; rfl
  · simp only [decide_eq_true_eq] at c c2; rw [if_neg c, if_pos (by omega)]
  · simp only [decide_eq_true_eq] at c c2; rw [if_neg c, if_neg (by omega)]
theorem mo_is (x : Int) : 1 ≤ mo x ∧ mo x ≤ 256 := by unfold mo; constructor <;> (repeat' split) <;> omega
theorem plays_loop (l : List (Int × Int × Int)) (values : List Int) (x0 x1 x2 : Int) (hl : l.length ≤ 300) : ∀ (d : Nat) (i : Int) (hi : 0 ≤ i ∧ i + d = l.length) {r : M} {g many dirty : Int} {b : List Cell}
      (h : Hd x0 x1 (mo x2) b many dirty r) (hr : Rise r) (hg : (r.length : Int) ≤ g ∧ g ≤ 300) (hp : b.length = 8 ∨ (b.length : Int) ≤ 4 * g),
    Ev (fun n => f12_broughamlaw40_TablePlays_L9 n l values r g i x0 x1 x2 x0 x1 many dirty (mo x2) b) (fun w => ∃ r many dirty b, w = .inr (values, r, x0, x1, many, dirty, mo x2, b) ∧ Hd x0 x1 (mo x2) b many dirty r ∧ Rise r)
  | 0, i, hi, r, g, many, dirty, b, h, hr, hg, hp => by
    apply Ev.succ
    unfold f12_broughamlaw40_TablePlays_L9
    exact Ev.neg (by simp only [decide_eq_true_eq]; omega) (Ev.some ⟨r, many, dirty, b, rfl, h, hr⟩)
  | d + 1, i, hi, r, g, many, dirty, b, h, hr, hg, hp => by
    have hmo := mo_is x2
    have hrl : r.length ≤ 256 := by have := h.room; omega
    -- what stands behind each call
    have go : ∀ {r' : M} {g' many' dirty' : Int} {b' : List Cell} (h' : Hd x0 x1 (mo x2) b' many' dirty' r') (hr' : Rise r') (hg' : (r'.length : Int) ≤ g' ∧ g' ≤ 300) (hp' : b'.length = 8 ∨ (b'.length : Int) ≤ 4 * g'),
        Ev (fun n => f12_broughamlaw40_TablePlays_L9 n l values r' g' (IntKind.wrap .i64 (i + 1)) x0 x1 x2 x0 x1 many' dirty' (mo x2) b') (fun w => ∃ r many dirty b, w = .inr (values, r, x0, x1, many, dirty, mo x2, b) ∧ Hd x0 x1 (mo x2) b many dirty r ∧ Rise r) := by
      intro r' g' many' dirty' b' h' hr' hg' hp'
      rw [i64_id (by omega) (by omega)]
      exact plays_loop l values x0 x1 x2 hl d (i + 1) (by omega) h' hr' hg' hp'
    have del : ∀ name : Int, Ev (fun n => (f58_broughamref40_Delete n r name).bind fun r307_0 =>
          (f51_table_Table_Delete n name x0 x1 many dirty (mo x2) b).bind fun r308_0 =>
          if (!(r308_0.1 == r307_0.2)) = true then
            some (.inl false)
          else
            if (decide ((((r307_0.1.length : Nat) : Int) : Int) > g)) = true then
              (f54_table_Table_Len r308_0.2.1 r308_0.2.2.1 r308_0.2.2.2.1 r308_0.2.2.2.2.1 r308_0.2.2.2.2.2.1 r308_0.2.2.2.2.2.2).bind fun r312_0 =>
              if ((r312_0.1 : Int) != ((r307_0.1.length : Nat) : Int)) = true then
                some (.inl false)
              else
                (f62_table_Table_Places r312_0.2.1 r312_0.2.2.1 r312_0.2.2.2.1 r312_0.2.2.2.2.1 r312_0.2.2.2.2.2.1 r312_0.2.2.2.2.2.2).bind fun r312_1 =>
                if (decide ((r312_1.1 : Int) > 8)) = true then
                  (f62_table_Table_Places r312_1.2.1 r312_1.2.2.1 r312_1.2.2.2.1 r312_1.2.2.2.2.1 r312_1.2.2.2.2.2.1 r312_1.2.2.2.2.2.2).bind fun r312_2 =>
                  if (decide ((r312_2.1 : Int) > (IntKind.wrap .i64 (4 * ((r307_0.1.length : Nat) : Int))))) = true then
                    some (.inl false)
                  else
                    f12_broughamlaw40_TablePlays_L9 n l values r307_0.1 ((r307_0.1.length : Nat) : Int) (IntKind.wrap .i64 (i + 1)) x0 x1 x2 r312_2.2.1 r312_2.2.2.1 r312_2.2.2.2.1 r312_2.2.2.2.2.1 r312_2.2.2.2.2.2.1 r312_2.2.2.2.2.2.2
                else
                  f12_broughamlaw40_TablePlays_L9 n l values r307_0.1 ((r307_0.1.length : Nat) : Int) (IntKind.wrap .i64 (i + 1)) x0 x1 x2 r312_1.2.1 r312_1.2.2.1 r312_1.2.2.2.1 r312_1.2.2.2.2.1 r312_1.2.2.2.2.2.1 r312_1.2.2.2.2.2.2
            else
              (f54_table_Table_Len r308_0.2.1 r308_0.2.2.1 r308_0.2.2.2.1 r308_0.2.2.2.2.1 r308_0.2.2.2.2.2.1 r308_0.2.2.2.2.2.2).bind fun r317_0 =>
              if ((r317_0.1 : Int) != ((r307_0.1.length : Nat) : Int)) = true then
                some (.inl false)
              else
                (f62_table_Table_Places r317_0.2.1 r317_0.2.2.1 r317_0.2.2.2.1 r317_0.2.2.2.2.1 r317_0.2.2.2.2.2.1 r317_0.2.2.2.2.2.2).bind fun r317_1 =>
                if (decide ((r317_1.1 : Int) > 8)) = true then
                  (f62_table_Table_Places r317_1.2.1 r317_1.2.2.1 r317_1.2.2.2.1 r317_1.2.2.2.2.1 r317_1.2.2.2.2.2.1 r317_1.2.2.2.2.2.2).bind fun r317_2 =>
                  if (decide ((r317_2.1 : Int) > (IntKind.wrap .i64 (4 * g)))) = true then
                    some (.inl false)
                  else
                    f12_broughamlaw40_TablePlays_L9 n l values r307_0.1 g (IntKind.wrap .i64 (i + 1)) x0 x1 x2 r317_2.2.1 r317_2.2.2.1 r317_2.2.2.2.1 r317_2.2.2.2.2.1 r317_2.2.2.2.2.2.1 r317_2.2.2.2.2.2.2
                else
                  f12_broughamlaw40_TablePlays_L9 n l values r307_0.1 g (IntKind.wrap .i64 (i + 1)) x0 x1 x2 r317_1.2.1 r317_1.2.2.1 r317_1.2.2.2.1 r317_1.2.2.2.2.1 r317_1.2.2.2.2.2.1 r317_1.2.2.2.2.2.2)
        (fun w => ∃ r many dirty b, w = .inr (values, r, x0, x1, many, dirty, mo x2, b) ∧ Hd x0 x1 (mo x2) b many dirty r ∧ Rise r) := by
      intro name
      refine Ev.bind (refdel_is r (by omega) h.once name) ?_
      rintro _ rfl
      refine Ev.bind (del_spec h name) ?_
      rintro _ ⟨many', dirty', b', rfl, h', hlen⟩
      have hol := others_len h.once name
      have hle : (others r name).length ≤ r.length := by omega
      have hm' := h'.many
      dsimp only
      refine Ev.neg (by simp) (Ev.neg (by simp only [decide_eq_true_eq]; omega) ?_)
      exact tail (fun n k0 k1 m d mm q => f12_broughamlaw40_TablePlays_L9 n l values (others r name) g (IntKind.wrap .i64 (i + 1)) x0 x1 x2 k0 k1 m d mm q) hm' ⟨by omega, by omega⟩ (by rw [hlen]; exact hp) (go h' (rise_others hr name) ⟨by omega, by omega⟩ (by rw [hlen]; exact hp))
    have get : ∀ name : Int, Ev (fun n => (f53_table_Table_Get n name x0 x1 many dirty (mo x2) b).bind fun r323_0 =>
            (f59_broughamref40_Get n r name).bind fun r324_0 =>
            if ((r323_0.1 : Int) != r324_0.1) = true then
              some (.inl false)
            else
              if (!(r323_0.2.1 == r324_0.2)) = true then
                some (.inl false)
              else
                if (decide ((((r.length : Nat) : Int) : Int) > g)) = true then
                  (f54_table_Table_Len r323_0.2.2.1 r323_0.2.2.2.1 r323_0.2.2.2.2.1 r323_0.2.2.2.2.2.1 r323_0.2.2.2.2.2.2.1 r323_0.2.2.2.2.2.2.2).bind fun r330_0 =>
                  if ((r330_0.1 : Int) != ((r.length : Nat) : Int)) = true then
                    some (.inl false)
                  else
                    (f62_table_Table_Places r330_0.2.1 r330_0.2.2.1 r330_0.2.2.2.1 r330_0.2.2.2.2.1 r330_0.2.2.2.2.2.1 r330_0.2.2.2.2.2.2).bind fun r330_1 =>
                    if (decide ((r330_1.1 : Int) > 8)) = true then
                      (f62_table_Table_Places r330_1.2.1 r330_1.2.2.1 r330_1.2.2.2.1 r330_1.2.2.2.2.1 r330_1.2.2.2.2.2.1 r330_1.2.2.2.2.2.2).bind fun r330_2 =>
                      if (decide ((r330_2.1 : Int) > (IntKind.wrap .i64 (4 * ((r.length : Nat) : Int))))) = true then
                        some (.inl false)
                      else
                        f12_broughamlaw40_TablePlays_L9 n l values r ((r.length : Nat) : Int) (IntKind.wrap .i64 (i + 1)) x0 x1 x2 r330_2.2.1 r330_2.2.2.1 r330_2.2.2.2.1 r330_2.2.2.2.2.1 r330_2.2.2.2.2.2.1 r330_2.2.2.2.2.2.2
                    else
                      f12_broughamlaw40_TablePlays_L9 n l values r ((r.length : Nat) : Int) (IntKind.wrap .i64 (i + 1)) x0 x1 x2 r330_1.2.1 r330_1.2.2.1 r330_1.2.2.2.1 r330_1.2.2.2.2.1 r330_1.2.2.2.2.2.1 r330_1.2.2.2.2.2.2
                else
                  (f54_table_Table_Len r323_0.2.2.1 r323_0.2.2.2.1 r323_0.2.2.2.2.1 r323_0.2.2.2.2.2.1 r323_0.2.2.2.2.2.2.1 r323_0.2.2.2.2.2.2.2).bind fun r335_0 =>
                  if ((r335_0.1 : Int) != ((r.length : Nat) : Int)) = true then
                    some (.inl false)
                  else
                    (f62_table_Table_Places r335_0.2.1 r335_0.2.2.1 r335_0.2.2.2.1 r335_0.2.2.2.2.1 r335_0.2.2.2.2.2.1 r335_0.2.2.2.2.2.2).bind fun r335_1 =>
                    if (decide ((r335_1.1 : Int) > 8)) = true then
                      (f62_table_Table_Places r335_1.2.1 r335_1.2.2.1 r335_1.2.2.2.1 r335_1.2.2.2.2.1 r335_1.2.2.2.2.2.1 r335_1.2.2.2.2.2.2).bind fun r335_2 =>
                      if (decide ((r335_2.1 : Int) > (IntKind.wrap .i64 (4 * g)))) = true then
                        some (.inl false)
                      else
                        f12_broughamlaw40_TablePlays_L9 n l values r g (IntKind.wrap .i64 (i + 1)) x0 x1 x2 r335_2.2.1 r335_2.2.2.1 r335_2.2.2.2.1 r335_2.2.2.2.2.1 r335_2.2.2.2.2.2.1 r335_2.2.2.2.2.2.2
                    else
                      f12_broughamlaw40_TablePlays_L9 n l values r g (IntKind.wrap .i64 (i + 1)) x0 x1 x2 r335_1.2.1 r335_1.2.2.1 r335_1.2.2.2.1 r335_1.2.2.2.2.1 r335_1.2.2.2.2.2.1 r335_1.2.2.2.2.2.2)
        (fun w => ∃ r many dirty b, w = .inr (values, r, x0, x1, many, dirty, mo x2, b) ∧ Hd x0 x1 (mo x2) b many dirty r ∧ Rise r) := by
      intro name
      refine Ev.bind (get_spec h name) ?_
      rintro _ rfl
      refine Ev.bind (refget_is r (by omega) name) ?_
      rintro _ rfl
      refine Ev.neg (by simp) (Ev.neg (by simp) (Ev.neg (by simp only [decide_eq_true_eq]; omega) ?_))
      exact tail (fun n k0 k1 m d mm q => f12_broughamlaw40_TablePlays_L9 n l values r g (IntKind.wrap .i64 (i + 1)) x0 x1 x2 k0 k1 m d mm q) h.many ⟨by omega, by omega⟩ hp (go h hr hg hp)
    have put : ∀ name v : Int, Ev (fun n => (f61_broughamlaw40_most x2).bind fun r340_0 =>
            (f60_broughamref40_Put n r name v r340_0).bind fun r340_1 =>
            (f52_table_Table_Put n name v x0 x1 many dirty (mo x2) b).bind fun r341_0 =>
            if (!(r341_0.1 == r340_1.2)) = true then
              some (.inl false)
            else
              if (decide ((((r340_1.1.length : Nat) : Int) : Int) > g)) = true then
                (f54_table_Table_Len r341_0.2.1 r341_0.2.2.1 r341_0.2.2.2.1 r341_0.2.2.2.2.1 r341_0.2.2.2.2.2.1 r341_0.2.2.2.2.2.2.2).bind fun r345_0 =>
                if ((r345_0.1 : Int) != ((r340_1.1.length : Nat) : Int)) = true then
                  some (.inl false)
                else
                  (f62_table_Table_Places r345_0.2.1 r345_0.2.2.1 r345_0.2.2.2.1 r345_0.2.2.2.2.1 r345_0.2.2.2.2.2.1 r345_0.2.2.2.2.2.2).bind fun r345_1 =>
                  if (decide ((r345_1.1 : Int) > 8)) = true then
                    (f62_table_Table_Places r345_1.2.1 r345_1.2.2.1 r345_1.2.2.2.1 r345_1.2.2.2.2.1 r345_1.2.2.2.2.2.1 r345_1.2.2.2.2.2.2).bind fun r345_2 =>
                    if (decide ((r345_2.1 : Int) > (IntKind.wrap .i64 (4 * ((r340_1.1.length : Nat) : Int))))) = true then
                      some (.inl false)
                    else
                      f12_broughamlaw40_TablePlays_L9 n l values r340_1.1 ((r340_1.1.length : Nat) : Int) (IntKind.wrap .i64 (i + 1)) x0 x1 x2 r345_2.2.1 r345_2.2.2.1 r345_2.2.2.2.1 r345_2.2.2.2.2.1 r345_2.2.2.2.2.2.1 r345_2.2.2.2.2.2.2
                  else
                    f12_broughamlaw40_TablePlays_L9 n l values r340_1.1 ((r340_1.1.length : Nat) : Int) (IntKind.wrap .i64 (i + 1)) x0 x1 x2 r345_1.2.1 r345_1.2.2.1 r345_1.2.2.2.1 r345_1.2.2.2.2.1 r345_1.2.2.2.2.2.1 r345_1.2.2.2.2.2.2
              else
                (f54_table_Table_Len r341_0.2.1 r341_0.2.2.1 r341_0.2.2.2.1 r341_0.2.2.2.2.1 r341_0.2.2.2.2.2.1 r341_0.2.2.2.2.2.2.2).bind fun r350_0 =>
                if ((r350_0.1 : Int) != ((r340_1.1.length : Nat) : Int)) = true then
                  some (.inl false)
                else
                  (f62_table_Table_Places r350_0.2.1 r350_0.2.2.1 r350_0.2.2.2.1 r350_0.2.2.2.2.1 r350_0.2.2.2.2.2.1 r350_0.2.2.2.2.2.2).bind fun r350_1 =>
                  if (decide ((r350_1.1 : Int) > 8)) = true then
                    (f62_table_Table_Places r350_1.2.1 r350_1.2.2.1 r350_1.2.2.2.1 r350_1.2.2.2.2.1 r350_1.2.2.2.2.2.1 r350_1.2.2.2.2.2.2).bind fun r350_2 =>
                    if (decide ((r350_2.1 : Int) > (IntKind.wrap .i64 (4 * g)))) = true then
                      some (.inl false)
                    else
                      f12_broughamlaw40_TablePlays_L9 n l values r340_1.1 g (IntKind.wrap .i64 (i + 1)) x0 x1 x2 r350_2.2.1 r350_2.2.2.1 r350_2.2.2.2.1 r350_2.2.2.2.2.1 r350_2.2.2.2.2.2.1 r350_2.2.2.2.2.2.2
                  else
                    f12_broughamlaw40_TablePlays_L9 n l values r340_1.1 g (IntKind.wrap .i64 (i + 1)) x0 x1 x2 r350_1.2.1 r350_1.2.2.1 r350_1.2.2.2.1 r350_1.2.2.2.2.1 r350_1.2.2.2.2.2.1 r350_1.2.2.2.2.2.2)
        (fun w => ∃ r many dirty b, w = .inr (values, r, x0, x1, many, dirty, mo x2, b) ∧ Hd x0 x1 (mo x2) b many dirty r ∧ Rise r) := by
      intro name v
      refine Ev.bind (most_is x2) ?_
      rintro _ rfl
      refine Ev.bind (refput_is r (by omega) h.once hr name v (mo x2)) ?_
      rintro _ rfl
      refine Ev.bind (put_spec h name v) ?_
      rintro _ ⟨many', dirty', old, b', rfl, h', hlen⟩
      refine Ev.neg (by simp) ?_
      dsimp only
      generalize hq : (if name ∈ r.map Prod.fst ∨ ¬ (r.length : Int) ≥ mo x2 then insP (name, v) (others r name) else r) = q
      have hpq : (putT (mo x2) r name v).Perm q := by
        subst hq
        unfold putT
        by_cases c1 : name ∈ r.map Prod.fst
        · rw [if_pos c1, if_pos (.inl c1)]; exact (insP_perm _ _).symm
        · by_cases c2 : (r.length : Int) ≥ mo x2
          · rw [if_neg c1, if_pos c2, if_neg (by simp only [not_or, Decidable.not_not]; exact ⟨c1, c2⟩)]
          · rw [if_neg c1, if_neg c2, if_pos (.inr c2), others_out c1]; exact (insP_perm _ _).symm
      have hrq : Rise q := by
        subst hq
        split
        · exact insP_rise _ _ (rise_others hr name)
        · exact hr
      have h2 := h'.of_perm hpq
      have hql := hpq.length_eq
      have hm2 := h2.many
      have hroom := h2.room
      refine Ev.ite (fun c => ?_) (fun c => ?_)
      · simp only [decide_eq_true_eq] at c
        have hp2 : b'.length = 8 ∨ (b'.length : Int) ≤ 4 * ((q.length : Nat) : Int) := by omega
        exact tail (fun n k0 k1 m d mm z => f12_broughamlaw40_TablePlays_L9 n l values q ((q.length : Nat) : Int) (IntKind.wrap .i64 (i + 1)) x0 x1 x2 k0 k1 m d mm z) hm2 ⟨by omega, by omega⟩ hp2 (go h2 hrq ⟨by omega, by omega⟩ hp2)
      · simp only [decide_eq_true_eq] at c
        have hp2 : b'.length = 8 ∨ (b'.length : Int) ≤ 4 * g := by omega
        exact tail (fun n k0 k1 m d mm z => f12_broughamlaw40_TablePlays_L9 n l values q g (IntKind.wrap .i64 (i + 1)) x0 x1 x2 k0 k1 m d mm z) hm2 ⟨by omega, by omega⟩ hp2 (go h2 hrq ⟨by omega, by omega⟩ hp2)
    apply Ev.succ
    unfold f12_broughamlaw40_TablePlays_L9
    refine Ev.pos (by simp only [decide_eq_true_eq]; omega) (Ev.guard (by omega) ?_)
    refine Ev.ite (fun _ => Ev.ite (fun _ => del _) (fun _ => Ev.ite (fun _ => get _) (fun _ => put _ _))) (fun _ => Ev.ite (fun _ => del _) (fun _ => Ev.ite (fun _ => get _) (fun _ => put _ _)))
theorem new_hd (k0 k1 x : Int) : Hd k0 k1 (mo x) (List.replicate 8 (0, (0, 0))) 0 0 [] where
  hl := by decide
  hr := fresh_reach 8 _
  perm := by rw [fresh_ct]
  once := List.nodup_nil
  many := rfl
  dirty := by rw [fresh_dn]; rfl
  load := by rw [fresh_dn]; decide
  room := by have := mo_is x; simp only [List.length_nil]; omega
  most := mo_is x
theorem alive_ev : Ev (fun n => f57_broughamlaw40_alive n) (fun r => r = true) := Ev.at 200 (fun m => by kernel_rfl) rfl
theorem TablePlays (x : (Int × Int) × Int) (h0 : K.ok (.pair (.pair (.int .u64) (.int .u64)) (.int .i64)) x) (l : List (Int × Int × Int)) (h1 : K.ok (.slice (.pair (.int .i64) (.pair (.int .u32) (.int .i64)))) l) (values : List Int) (h2 : K.ok (.slice (.int .i64)) values) : ∃ n, f12_broughamlaw40_TablePlays n x.1.1 x.1.2 x.2 l values = some true := by
  apply Ev.true
  unfold f12_broughamlaw40_TablePlays
  refine Ev.ite (fun _ => Ev.some rfl) fun c => Ev.ite (fun _ => Ev.some rfl) fun c2 => ?_
  simp only [decide_eq_true_eq] at c c2
  refine Ev.bind (Ev.of (r := (x.1.1, x.1.2, 0, 0, mo x.2, List.replicate 8 (0, (0, 0)))) rfl rfl) ?_
  rintro _ rfl
  refine Ev.bind (plays_loop l values x.1.1 x.1.2 x.2 (by omega) l.length 0 (by omega) (new_hd _ _ _) List.Pairwise.nil (by simp) (.inl (by simp))) ?_
  rintro _ ⟨r, many, dirty, b, rfl, h, hr⟩
  have hm := mo_is x.2
  have hroom := h.room
  dsimp only
  refine Ev.bind (names_spec h [] (by simp)) ?_
  rintro _ ⟨r1, rfl, q1, q2, q3⟩
  refine Ev.bind (refnames_is r (by omega) [] (by simp)) ?_
  rintro _ rfl
  rw [← up_eq q1 (rise_names hr []) q3]
  refine Ev.bind (row_is r1 q2) ?_
  intro w hw
  refine Ev.pos hw ?_
  dsimp only
  refine Ev.bind (names_spec h values (by omega)) ?_
  rintro _ ⟨r2, rfl, p1, p2, p3⟩
  refine Ev.bind (refnames_is r (by omega) values (by omega)) ?_
  rintro _ rfl
  rw [← up_eq p1 (rise_names hr values) p3]
  refine Ev.bind (row_is r2 p2) ?_
  intro w hw
  refine Ev.pos hw ?_
  exact Ev.bind alive_ev (fun r hr => Ev.some hr)
end Go.Proofs.YtjoibacjpapncaaF40b
