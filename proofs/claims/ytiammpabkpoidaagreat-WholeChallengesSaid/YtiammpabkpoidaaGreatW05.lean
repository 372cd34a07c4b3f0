/- Texts ZedKd of our own machine for the walk of WholeChallenges, one behind the other. -/
import Derived.Test.YtiammpabkpoidaaGreatW04
namespace Zed
open Go
set_option linter.unusedVariables false
set_option linter.unusedSimpArgs false

section
variable {P : Program} {tab : Tab} {E : Ent} {g : G} {s : S} {a : Act} {W W' : World} {F : Nat → Nat → Prop}

theorem look_und' {t e : TypeId} (ht : TabOk P tab) (h : (tlook tab t).map TyI.ty = some (.slice e)) : P.underlying t = some (.slice e) := by
  obtain ⟨i, d, _, _, hu, hf⟩ := und_of ht h
  cases hf
  exact hu
theorem look_str {t : TypeId} (ht : TabOk P tab) (h : (tlook tab t).map TyI.ty = some .str) : P.underlying t = some .string := by
  obtain ⟨i, d, _, _, hu, hf⟩ := und_of ht h
  cases hf
  exact hu
theorem look_int {t : TypeId} {k : IntKind} (ht : TabOk P tab) (h : (tlook tab t).map TyI.ty = some (.int k)) : P.underlying t = some (.int k) := by
  obtain ⟨i, d, _, _, hu, hf⟩ := und_of ht h
  cases hf
  exact hu

theorem one_of {v : Value} {z : Z1} (h : RC W g v z) : v.oneCell' = true := by
  cases z with
  | d x => exact RD.one h
  | own l sz xs => exact RD.one h.1
  | ptr id off => rw [show v = _ from h]; rfl
  | el cs => obtain ⟨b, o, rfl, _⟩ := h; rfl
  | nn T xs => exact RD.one h.1
  | pix id off n i => rw [h.2]; rfl
  | row l T => obtain ⟨_, _, _, _, e⟩ := h; rw [e]; rfl
  | pel l T i off => obtain ⟨_, _, _, _, _, e⟩ := h; rw [e]; rfl
  | run T xs => exact h.elim
  | mref id => rw [show v = _ from h]; rfl
  | mp k k' l => exact h.elim
  | hd id off n c => obtain ⟨_, e, _⟩ := h; rw [e]; rfl
  | mpp k l c => exact h.elim
  | fn f ps => rw [show v = _ from h]; rfl
  | itr m a b c => exact h.elim
theorem ones_of {vs : List Value} {cs : List Z1} (h : RCs W g vs cs) : ∀ u ∈ vs, u.oneCell' = true := by
  intro u hu
  obtain ⟨j, hj⟩ := List.mem_iff_getElem?.1 hu
  have hjl : j < cs.length := by rw [← h.1]; exact (List.getElem?_eq_some_iff.1 hj).1
  exact one_of (h.2 j u _ hj (List.getElem?_eq_getElem hjl))

theorem elem_vals {T : K} (hs : 0 < T.size) {xs : List T.den} {vals : List Value} (h : Rel2 (RD W F) vals (xs.flatMap T.rrow)) {q : Nat} (hq : q < xs.length) :
    Rel2 (RX W F) ((vals.drop (q * T.size)).take T.size) (T.row (xs.getD q T.dflt)) := by
  have hlen : vals.length = xs.length * T.size := by rw [h.1, flat_len]
  have hle : (q + 1) * T.size ≤ xs.length * T.size := Nat.mul_le_mul_right _ hq
  rw [Nat.add_mul] at hle
  have hrl : (T.row (xs.getD q T.dflt)).length = T.size := by have := congrArg List.length (K.row_raw T (xs.getD q T.dflt)); rw [List.length_map, K.rrow_length] at this; exact this
  refine ⟨by rw [hrl]; simp; omega, fun j u d h1 h2 => ?_⟩
  have hj : j < T.size := by rw [← hrl]; exact (List.getElem?_eq_some_iff.1 h2).1
  rw [List.getElem?_take_of_lt hj, List.getElem?_drop] at h1
  refine h.2 _ u _ h1 ?_
  rw [flat_ij T hs xs q j hj, List.getElem?_eq_getElem hq]
  have := (row_get (o := 0) (T := T) (x := xs.getD q T.dflt) (j := j) (d := d) (by simpa using h2)).2
  rw [Nat.zero_add] at this
  have e : xs.getD q T.dflt = xs[q] := by simp [List.getD, List.getElem?_eq_getElem hq]
  rw [e] at this
  exact this

/-- An element anew. -/
theorem set_vals {T : K} (hs : 0 < T.size) {xs : List T.den} {vals nv : List Value} (h : Rel2 (RD W F) vals (xs.flatMap T.rrow)) {q : Nat} (hq : q < xs.length) {z : T.den} (hz : Rel2 (RD W F) nv (T.rrow z)) :
    Rel2 (RD W F) (vals.take (q * T.size) ++ nv ++ vals.drop (q * T.size + T.size)) ((xs.set q z).flatMap T.rrow) := by
  have hlen : vals.length = xs.length * T.size := by rw [h.1, flat_len]
  have hle : (q + 1) * T.size ≤ xs.length * T.size := Nat.mul_le_mul_right _ hq
  rw [Nat.add_mul, Nat.one_mul] at hle
  have hnv : nv.length = T.size := by rw [hz.1, K.rrow_length]
  refine ⟨by rw [flat_len, List.length_set]; simp; omega, fun m u d h1 h2 => ?_⟩
  rw [flat_at T hs] at h2
  obtain ⟨x, hx, hd⟩ := obind h2
  by_cases c1 : m < q * T.size
  · rw [List.append_assoc, List.getElem?_append_left (by simp; omega), List.getElem?_take_of_lt c1] at h1
    have hmq : m / T.size ≠ q := by have := Nat.div_lt_of_lt_mul (show m < T.size * q by rw [Nat.mul_comm]; exact c1); omega
    rw [List.getElem?_set_ne (Ne.symm hmq)] at hx
    exact h.2 m u d h1 (by rw [flat_at T hs, hx]; exact hd)
  · by_cases c2 : m < q * T.size + T.size
    · rw [List.append_assoc, List.getElem?_append_right (by simp; omega), List.getElem?_append_left (by simp; omega)] at h1
      have e1 : m - (vals.take (q * T.size)).length = m - q * T.size := by simp; omega
      rw [e1] at h1
      have hm : m = q * T.size + (m - q * T.size) := by omega
      have hj : m - q * T.size < T.size := by omega
      generalize hjj : m - q * T.size = jj at *
      have hmd : m / T.size = q := by rw [hm, Nat.mul_comm, Nat.mul_add_div hs, Nat.div_eq_of_lt hj]; rfl
      have hmm : m % T.size = jj := by rw [hm, Nat.mul_comm, Nat.mul_add_mod, Nat.mod_eq_of_lt hj]
      rw [hmd, List.getElem?_set_self hq] at hx
      cases hx
      rw [hmm] at hd
      exact hz.2 _ u d h1 hd
    · rw [List.getElem?_append_right (by simp; omega), List.getElem?_drop] at h1
      have e1 : q * T.size + T.size + (m - (vals.take (q * T.size) ++ nv).length) = m := by simp; omega
      rw [e1] at h1
      have hmq : m / T.size ≠ q := by
        have : q + 1 ≤ m / T.size := (Nat.le_div_iff_mul_le hs).2 (by rw [Nat.add_mul, Nat.one_mul]; omega)
        omega
      rw [List.getElem?_set_ne (Ne.symm hmq)] at hx
      exact h.2 m u d h1 (by rw [flat_at T hs, hx]; exact hd)

theorem row_len (h : AI P E g s a W) {l : Nat} {r : Rw} (hr : runAt s.live s.bx l = some r) {T : K} {v : Value} (hv : RC W g v (.row l T)) : ∃ A c, v = .slice A r.xs.length c := by
  obtain ⟨_, q⟩ := h.rowVal hr hv
  rcases q with ⟨rfl, e⟩ | ⟨_, b, cap, cur, rfl, _⟩
  · rw [e]; exact ⟨_, _, rfl⟩
  · exact ⟨_, _, rfl⟩

set_option maxHeartbeats 1000000 in
theorem rowOp_wp (ht : TabOk P tab) (h : AI P E g s a W) {o : Oper} {st : Stp} {mk : Bool} {base : Nat} {n' : Nat → Prop} (hz : rowOp tab base mk s.live s.bx s.ev o.op = some (some st)) (hC : holds st.C)
    (hd : ∀ d, o.dst = some d → d < E.nt) (hb : ¬ s.us base) (hm : ∀ k, s.us k → n' k) (hn : n' base) {Q : Exit → Act → World → Prop} :
    o.wp P a W (fun a' W' => ∃ g', AI P E g' (s.go o.dst st.z st.e n') a' W') Q := by
  unfold rowOp at hz
  split at hz
  · -- len
    rename_i args ats ho
    obtain ⟨args⟩ := args
    obtain ⟨ats⟩ := ats
    simp only at hz
    split at hz
    · rename_i x t ts
      split at hz
      · rename_i l T hx
        simp only [Option.some.injEq] at hz
        split at hz
        · rename_i e r hty hr
          cases hz
          obtain ⟨A, c, hv⟩ := row_len (T := T) h hr (h.ev hx).1
          have hu := look_und' ht hty
          unfold Oper.wp execOp
          simp [ho, resolve, invoke, builtin, Builtin.len_, hv, run_underlying hu, goInt]
          exact ⟨g, h.val hd hm (.int _ _) trivial⟩
        · cases hz
      · cases hz
    · cases hz
  · -- indexAddr
    rename_i t x ix ho
    split at hz
    · rename_i l T hx
      simp only [Option.some.injEq] at hz
      split at hz
      · rename_i e i r hty hi hr
        split at hz
        · rename_i ei he
          split at hz
          · rename_i hsz
            cases hz
            have hC : 0 ≤ i ∧ i < r.xs.length := hC
            obtain ⟨e1, q⟩ := h.rowVal (T := T) hr (h.ev hx).1
            obtain ⟨k, hk⟩ := h.int hi
            have hu := look_und' ht hty
            rcases q with ⟨_, e2⟩ | ⟨⟨hs0, _⟩, b, cap, cur, hv, _⟩
            · rw [e2] at hC; simp at hC; omega
            · unfold Oper.wp execOp
              rw [ho]
              simp only [hv, hk]
              simp [Instr.indexAt, run_underlying hu, asIntOf, hC, (ht _ _ he).size, ← hsz, addr_add]
              exact ⟨g, h.val (z := .one (.c (.pel l r.T i.toNat 0))) hd hm ⟨b, r.xs.length, cap, by rw [e1, hv], by omega, by rw [Nat.add_zero]⟩ (h.ev hx).2⟩
          · cases hz
        · cases hz
      · cases hz
    · cases hz
  · -- load
    rename_i t x ho
    split at hz
    · rename_i l T q o' hx
      simp only [Option.some.injEq] at hz
      split at hz
      · rename_i i r hi hr
        split at hz
        · rename_i hsz
          obtain ⟨v1, hr1, rfl⟩ := omap hz
          obtain ⟨b, cap, cur, hq, hv, _, hh, hrel, hlc, hcs, hs0⟩ := h.elem hr (h.ev hx).1 hsz
          have hle : (q + 1) * r.T.size ≤ r.xs.length * r.T.size := Nat.mul_le_mul_right _ hq
          have hle2 : r.xs.length * r.T.size ≤ cap * r.T.size := Nat.mul_le_mul_right _ hlc
          rw [Nat.add_mul, Nat.one_mul] at hle
          have key : ∀ (j : Nat) (d : Z1), (((r.T.row (r.xs.getD q r.T.dflt)).drop o').map Z1.d)[j]? = some d → W.cell? ⟨b, q * r.T.size + o' + j, none⟩ = some (cur.getD (q * r.T.size + o' + j) .nilIface) ∧ RC W g (cur.getD (q * r.T.size + o' + j) .nilIface) d := by
            intro j d hj
            rw [List.getElem?_map] at hj
            obtain ⟨d0, hd0, rfl⟩ := omap hj
            obtain ⟨p1, p2⟩ := row_get hd0
            have hlt : q * r.T.size + o' + j < cur.size := by omega
            have hcur : cur[q * r.T.size + o' + j]? = some (cur.getD (q * r.T.size + o' + j) .nilIface) := by simp [Array.getD_eq_getD_getElem?, Array.getElem?_eq_getElem hlt]
            refine ⟨by simp only [World.cell?, hh]; exact hcur, ?_⟩
            refine hrel.2 (q * r.T.size + (o' + j)) _ d0.raw ?_ ?_
            · rw [List.getElem?_take_of_lt (by omega), Array.getElem?_toList, ← Nat.add_assoc]; exact hcur
            · rw [flat_ij r.T hs0 r.xs q _ p1, List.getElem?_eq_getElem hq]
              have e : r.xs.getD q r.T.dflt = r.xs[q] := by simp [List.getD, List.getElem?_eq_getElem hq]
              rw [e] at p2
              exact p2
          obtain ⟨v, p1, p2⟩ := readZ_run (ht _ _ hi) (fun j d hj => (key j d hj).1) (fun j d hj => (key j d hj).2) hr1
          unfold Oper.wp execOp
          simp [ho, hv, Instr.loadAt, Instr.sureAddr, p1]
          exact ⟨g, h.val hd hm p2 (readZ_below hr1 (d_below _ _))⟩
        · cases hz
      · cases hz
    · rename_i id o' n q hx
      simp only [Option.some.injEq] at hz
      split at hz
      · rename_i i cs hi hcs
        split at hz
        · rename_i hc
          obtain ⟨d, hp, rfl⟩ := omap hz
          obtain ⟨hq, hv⟩ := (h.ev hx).1
          have hget : (cs.drop (o' + q))[0]? = some (.d d) := by
            have := pixZ_get hp hq
            rw [List.getElem?_take_of_lt hq, List.getElem?_drop] at this
            rw [List.getElem?_drop, Nat.add_zero]; exact this
          obtain ⟨vs, q1, q2⟩ := box_cells h.h hcs hc.1 (o' + q)
          have r1 := q1 0 _ hget
          have r2 := q2 0 _ hget
          have ha : (Go.isAgg t).run P W = .ok false W := by rw [(ht t i hi).isAgg, hc.2]
          unfold Oper.wp execOp
          rw [Nat.add_zero] at r1
          simp [ho, hv, Instr.loadAt, Instr.sureAddr, loadVar, ha, r1]
          exact ⟨g, h.val (z := .one (.c (.d d))) hd hm r2 trivial⟩
        · cases hz
      · cases hz
    · cases hz
  · -- store
    rename_i t x y ho
    split at hz
    · rename_i l T q o' hx
      simp only [Option.some.injEq] at hz
      split at hz
      · rename_i i r ds hi hr hds
        split at hz
        · rename_i hc
          obtain ⟨⟨hsz, hdl⟩, hle0⟩ := hc
          split at hz
          · rename_i z hun
            cases hz
            obtain ⟨b, cap, cur, hq, hv, hω, hh, hrel, hlc, hcs, hs0⟩ := h.elem hr (h.ev hx).1 hsz
            obtain ⟨vy, hy, hyd⟩ := obind hds
            have hcl := cells_rd (h.ev hy).1
            have hvals := toD_rd _ _ hyd _ hcl
            have hvl : (a.eval y).cells.size = i.size := by have := hvals.1; simp at this; omega
            have hle : (q + 1) * r.T.size ≤ r.xs.length * r.T.size := Nat.mul_le_mul_right _ hq
            have hle2 : r.xs.length * r.T.size ≤ cap * r.T.size := Nat.mul_le_mul_right _ hlc
            rw [Nat.add_mul, Nat.one_mul] at hle
            have hst := run_storeCells_at (P := P) b (q * r.T.size + o') r.e (a.eval y).cells.toList 0 cur W hh (by simp; omega) (ones_of hcl)
            have e0 : q * r.T.size + o' + 0 + (a.eval y).cells.toList.length = q * r.T.size + o' + i.size := by simp; omega
            rw [e0, Nat.add_zero] at hst
            have hev := elem_vals hs0 hrel hq
            generalize hel : (List.drop (q * r.T.size) (List.take (r.xs.length * r.T.size) cur.toList)).take r.T.size = el at hev
            have hrl : (r.T.row (r.xs.getD q r.T.dflt)).length = r.T.size := by have := congrArg List.length (K.row_raw r.T (r.xs.getD q r.T.dflt)); rw [List.length_map, K.rrow_length] at this; exact this
            generalize hR : r.T.row (r.xs.getD q r.T.dflt) = R at *
            have hell : el.length = r.T.size := by rw [hev.1, hrl]
            have hnv : Rel2 (RX W g.F) (el.take o' ++ (a.eval y).cells.toList ++ el.drop (o' + i.size)) (R.take o' ++ ds ++ R.drop (o' + i.size)) := by
              refine (Rel2.app (Rel2.app ⟨by simp [hell, hrl], fun j u d h1 h2 => ?_⟩ hvals) ⟨by simp [hell, hrl], fun j u d h1 h2 => ?_⟩)
              · have hj : j < o' := by have := (List.getElem?_eq_some_iff.1 h1).1; simp at this; omega
                rw [List.getElem?_take_of_lt hj] at h1 h2
                exact hev.2 j u d h1 h2
              · rw [List.getElem?_drop] at h1 h2
                exact hev.2 _ u d h1 h2
            obtain ⟨v1, v2, e1, q1, q2⟩ := unrow_rd r.T _ z [] hun _ hnv
            have hv2 : v2 = [] := List.eq_nil_of_length_eq_zero q2.1
            subst hv2
            rw [List.append_nil] at e1
            have hset := set_vals hs0 hrel hq q1
            obtain ⟨p1, p2⟩ := runAt_some hr
            have hfin := h.rowSet (dst := o.dst) (n' := n') (ys := r.xs.set q z) (cur' := (cur.toList.take (q * r.T.size + o') ++ (a.eval y).cells.toList ++ cur.toList.drop (q * r.T.size + o' + i.size)).toArray) hd hm p1 p2 hω hh (by simp) (by simp; omega) (by
              have e2 : List.take (r.xs.length * r.T.size) (cur.toList.take (q * r.T.size + o') ++ (a.eval y).cells.toList ++ cur.toList.drop (q * r.T.size + o' + i.size)).toArray.toList =
                  List.take (q * r.T.size) (List.take (r.xs.length * r.T.size) cur.toList) ++ v1 ++ List.drop (q * r.T.size + r.T.size) (List.take (r.xs.length * r.T.size) cur.toList) := by
                rw [← e1, ← hel]
                apply List.ext_getElem?
                intro m
                have hcl' : (a.eval y).cells.toList.length = i.size := by simpa using hvl
                have hcur : cur.toList.length = cap * r.T.size := by simpa using hcs
                rw [List.toList_toArray]
                by_cases c0 : m < r.xs.length * r.T.size
                · rw [List.getElem?_take_of_lt c0]
                  by_cases c1 : m < q * r.T.size
                  · rw [List.append_assoc, List.getElem?_append_left (by simp; omega), List.getElem?_take_of_lt (by omega), List.append_assoc, List.getElem?_append_left (by simp; omega), List.getElem?_take_of_lt c1, List.getElem?_take_of_lt c0]
                  · by_cases c2 : m < q * r.T.size + r.T.size
                    · rw [List.append_assoc (List.take (q * r.T.size) _), List.getElem?_append_right (l₁ := List.take (q * r.T.size) _) (by simp; omega), List.getElem?_append_left (l₁ := List.take o' _ ++ _ ++ _) (by simp; omega)]
                      have e3 : m - (List.take (q * r.T.size) (List.take (r.xs.length * r.T.size) cur.toList)).length = m - q * r.T.size := by simp; omega
                      rw [e3]
                      by_cases c3 : m < q * r.T.size + o'
                      · rw [List.append_assoc, List.getElem?_append_left (by simp; omega), List.getElem?_take_of_lt c3, List.append_assoc, List.getElem?_append_left (by simp; omega), List.getElem?_take_of_lt (by omega), List.getElem?_take_of_lt (by omega), List.getElem?_drop, List.getElem?_take_of_lt (by omega)]
                        congr 1; omega
                      · by_cases c4 : m < q * r.T.size + o' + i.size
                        · rw [List.append_assoc, List.getElem?_append_right (by simp; omega), List.getElem?_append_left (by simp; omega), List.append_assoc, List.getElem?_append_right (by simp; omega), List.getElem?_append_left (by simp; omega)]
                          congr 1; simp; omega
                        · rw [List.getElem?_append_right (by simp; omega), List.getElem?_drop, List.getElem?_append_right (by simp; omega), List.getElem?_drop, List.getElem?_take_of_lt (by simp; omega), List.getElem?_drop, List.getElem?_take_of_lt (by simp; omega)]
                          congr 1; simp; omega
                    · rw [List.getElem?_append_right (by simp; omega), List.getElem?_drop, List.getElem?_append_right (by simp; omega), List.getElem?_drop, List.getElem?_take_of_lt (by simp; omega)]
                      congr 1; simp; omega
                · rw [List.getElem?_eq_none (by simp; omega), List.getElem?_eq_none (by simp; omega)]
              rw [e2]; exact hset)
            have hrun : (Instr.storeAt t (a.eval x) (a.eval y)).run P W = .ok () (W.setRow b (cur.toList.take (q * r.T.size + o') ++ (a.eval y).cells.toList ++ cur.toList.drop (q * r.T.size + o' + i.size)).toArray) := by
              rw [hv]
              simp only [Instr.storeAt, Instr.sureAddr, storeVar, Sem.run_bind, Sem.run_pure, Result.andThen_ok, (ht t i hi).size, hvl]
              simpa using hst
            unfold Oper.wp execOp
            simp only [ho, Sem.run_bind, hrun, Sem.run_pure, Result.andThen_ok]
            exact ⟨g, hfin⟩
          · cases hz
        · cases hz
      · cases hz
    · rename_i id o' n q hx
      simp only [Option.some.injEq] at hz
      split at hz
      · rename_i i cs xd hi hcs hy
        split at hz
        · rename_i hc
          obtain ⟨⟨hpl, hsz⟩, hle⟩ := hc
          obtain ⟨ds, hds, hz⟩ := obind hz
          split at hz
          · rename_i hpl2
            cases hz
            obtain ⟨hq, hv⟩ := (h.ev hx).1
            have hyv : RD W g.F (a.eval y) xd.raw := (h.ev hy).1
            obtain ⟨d1, d2, d3⟩ := setPix_get hds hq
            obtain ⟨vs, ty, hh, hvs, hr⟩ := (h.h.box id cs (bc_of hcs (plain_run hpl))).1.plain hpl
            have hcells : (a.eval y).cells = #[a.eval y] := RD.notAgg hyv
            have hst := run_storeCells_at (P := P) (g.ρ id) (o' + q) ty (a.eval y).cells.toList 0 vs W hh (by rw [hcells]; simp; omega) (by rw [hcells]; intro u hu; simp at hu; subst hu; exact hyv.one)
            have e0 : o' + q + 0 + (a.eval y).cells.toList.length = o' + q + 1 := by rw [hcells]; simp
            rw [e0, Nat.add_zero, hcells] at hst
            have h' := h.write (dst := o.dst) (n' := n') (cs := cs) (vs' := (vs.toList.take (o' + q) ++ [a.eval y] ++ vs.toList.drop (o' + q + 1)).toArray) hpl hpl2 hd hm hcs (by
              have e0 : vs.toList.take (o' + q) ++ [a.eval y] ++ vs.toList.drop (o' + q + 1) = ((vs.toList.take cs.length).take (o' + q) ++ [a.eval y] ++ (vs.toList.take cs.length).drop (o' + q + 1)) ++ vs.toList.drop cs.length := by
                rw [List.take_take, Nat.min_eq_left (by omega), List.append_assoc (vs.toList.take (o' + q) ++ [a.eval y]), ← List.drop_append_of_le_length (by simp; omega), List.take_append_drop]
              rw [e0]
              have hps : (vs.toList.take cs.length).length = cs.length := by simp; omega
              generalize vs.toList.take cs.length = pre at *
              refine RCs.pre_of ⟨by simp [d1]; omega, fun j u d hj hd' => ?_⟩
              by_cases c1 : j < o'
              · rw [List.append_assoc, List.getElem?_append_left (by simp; omega), List.getElem?_take_of_lt (by omega)] at hj
                rw [List.append_assoc, List.getElem?_append_left (by simp; omega), List.getElem?_take_of_lt c1] at hd'
                exact hr.2 j u d hj hd'
              · by_cases c2 : j < o' + n
                · rw [List.append_assoc, List.getElem?_append_right (by simp; omega), List.getElem?_append_left (by simp [d1]; omega)] at hd'
                  have e1 : j - (List.take o' cs).length = j - o' := by simp; omega
                  rw [e1] at hd'
                  by_cases c3 : j = o' + q
                  · subst c3
                    rw [show o' + q - o' = q by omega, d2] at hd'
                    cases hd'
                    rw [List.append_assoc, List.getElem?_append_right (by simp; omega)] at hj
                    have e2 : o' + q - (List.take (o' + q) pre).length = 0 := by simp; omega
                    rw [e2] at hj
                    simp at hj
                    subst hj
                    exact hyv
                  · rw [d3 (j - o') (by omega) (by omega), List.getElem?_take_of_lt (by omega), List.getElem?_drop, show o' + (j - o') = j by omega] at hd'
                    by_cases c4 : j < o' + q
                    · rw [List.append_assoc, List.getElem?_append_left (by simp; omega), List.getElem?_take_of_lt c4] at hj
                      exact hr.2 j u d hj hd'
                    · rw [List.getElem?_append_right (by simp; omega), List.getElem?_drop] at hj
                      have e3 : o' + q + 1 + (j - (List.take (o' + q) pre ++ [a.eval y]).length) = j := by simp; omega
                      rw [e3] at hj
                      exact hr.2 j u d hj hd'
                · rw [List.getElem?_append_right (by simp [d1]; omega), List.getElem?_drop] at hd'
                  have e1 : o' + n + (j - (List.take o' cs ++ ds).length) = j := by simp [d1]; omega
                  rw [e1] at hd'
                  rw [List.getElem?_append_right (by simp; omega), List.getElem?_drop] at hj
                  have e3 : o' + q + 1 + (j - (List.take (o' + q) pre ++ [a.eval y]).length) = j := by simp; omega
                  rw [e3] at hj
                  exact hr.2 j u d hj hd') (fun z hz => by
              rcases List.mem_append.1 hz with h1 | h1
              · rcases List.mem_append.1 h1 with h1 | h1
                · exact (h.boxLow id cs hcs).2 z (List.mem_of_mem_take h1)
                · unfold setPix at hds
                  split at hds
                  · split at hds
                    · cases hds
                      obtain ⟨j, _, rfl⟩ := List.mem_map.1 h1
                      trivial
                    · cases hds
                  · cases hds
              · exact (h.boxLow id cs hcs).2 z (List.mem_of_mem_drop h1))
            have hrun : (Instr.storeAt t (a.eval x) (a.eval y)).run P W = .ok () (W.setRow (g.ρ id) (vs.toList.take (o' + q) ++ [a.eval y] ++ vs.toList.drop (o' + q + 1)).toArray) := by
              rw [hv]
              simp only [Instr.storeAt, Instr.sureAddr, storeVar, Sem.run_bind, Sem.run_pure, Result.andThen_ok, (ht t i hi).size, hsz, hcells]
              simpa using hst
            unfold Oper.wp execOp
            simp only [ho, Sem.run_bind, hrun, Sem.run_pure, Result.andThen_ok]
            exact ⟨g, h'⟩
          · cases hz
        · cases hz
      · cases hz
    · cases hz
  · -- append
    rename_i args ats ho
    obtain ⟨args⟩ := args
    obtain ⟨ats⟩ := ats
    simp only at hz
    split at hz
    · rename_i x y t t'
      have fin : ∀ {z : Z} {ef : Eff} {v' : Value} {W' : World}, (Builtin.append_ #[t, t'] o.type #[a.eval x, a.eval y]).run P W = .ok v' W' → (∃ g', AI P E g' (s.go o.dst z ef n') (a.put o.dst v') W') →
          o.wp P a W (fun a' W' => ∃ g', AI P E g' (s.go o.dst z ef n') a' W') Q := by
        rintro z ef v' W' r1 r2
        unfold Oper.wp execOp
        simp [ho, resolve, invoke, builtin, r1]
        exact r2
      split at hz
      · rename_i hstr
        simp only [Option.some.injEq] at hz
        have hus := look_str ht hstr
        split at hz
        · rename_i e vx b hty hx hy
          have hu := look_und' ht hty
          have hyv : a.eval y = .string b := by
            have : RD W g.F (a.eval y) (.str b) := (h.ev hy).1
            generalize a.eval y = w at *
            cases this; rfl
          split at hz
          · rename_i i hi
            split at hz
            · rename_i hs1
              have hT1 : 0 < (K.int .u8).size ∧ (K.int .u8).size = i.size := ⟨Nat.one_pos, hs1.symm⟩
              split at hz
              · rename_i l xs
                split at hz
                · rename_i e' k hlv
                  split at hz
                  · rename_i he
                    subst he
                    cases hz
                    have hC : xs.length + (bytesOf b).length ≤ maxLen ∧ (xs.length + (bytesOf b).length) * i.bytes ≤ 140737488355328 := hC
                    obtain ⟨q1, q2⟩ := (h.ev hx).1
                    have hown := h.h.own l _ hlv
                    rw [q2] at hown
                    obtain ⟨old, o1, o2⟩ := own_shape (ht _ _ hi) hT1 hown q1
                    obtain ⟨v', W', news, r1, r2, r3⟩ := apps_str (F := g.F) (ty := o.type) hu hus (ht _ _ hi) hs1 (by rw [o2.1, flat_len, hT1.2]) o1 (b := b) hC.1 hC.2
                    rw [← hyv] at r1
                    exact fin r1 (h.appOwn (kill := some l) (ht _ _ hi) hd hb hm hn hT1 hown q1 (fun b hb1 => ⟨l, _, rfl, hlv, by rw [q2]; exact hb1⟩) o1 o2 r3 r2)
                  · cases hz
                · cases hz
              · cases hz
                have hC : (bytesOf b).length ≤ maxLen ∧ (bytesOf b).length * i.bytes ≤ 140737488355328 := hC
                have hn0 : a.eval x = .slice none 0 0 := RD.unit_nil (h.ev hx).1
                obtain ⟨v', W', news, r1, r2, r3⟩ := apps_str (W := W) (F := g.F) (ty := o.type) (v := .slice none 0 0) (n := 0) (old := []) hu hus (ht _ _ hi) hs1 (by simp) (.inl ⟨rfl, rfl⟩) (b := b) (by simpa using hC.1) (by simpa using hC.2)
                rw [← hyv, ← hn0] at r1
                have := h.appOwn (kill := none) (k0 := 0) (dst := o.dst) (n' := n') (base := base) (T := .int .u8) (xs := []) (ys := bytesK b) (v := .slice none 0 0) (old := []) (ht _ _ hi) hd hb hm hn hT1 (.inl ⟨rfl, show (0 : Nat) ≠ 1 by decide⟩) (.slNil _) (fun b hb1 => by cases hb1) (.inl ⟨rfl, rfl⟩) ⟨rfl, by simp⟩ r3 r2
                exact fin r1 this
              · cases hz
            · cases hz
          · cases hz
        · cases hz
      · split at hz
        · rename_i l T hx
          simp only [Option.some.injEq] at hz
          split at hz
          · rename_i htt
            subst htt
            split at hz
            · rename_i e r T' ys hty hr hy
              have hu := look_und' ht hty
              split at hz
              · rename_i i zs hi hzs
                split at hz
                · rename_i he
                  cases hz
                  have hC : r.xs.length + zs.length ≤ maxLen ∧ (r.xs.length + zs.length) * i.bytes ≤ 140737488355328 := hC
                  obtain ⟨vy, hvy, hyd⟩ := obind hy
                  have hry : RD W g.F (a.eval y) (X.sl r.T zs).raw := cast_rd (V1.asD_rd (h.ev hvy).1 hyd) hzs
                  obtain ⟨q1, q2⟩ := h.rowVal (T := T) hr (h.ev hx).1
                  obtain ⟨p1, p2⟩ := runAt_some hr
                  obtain ⟨he, hTi⟩ := he
                  have hlive : ∀ b, (a.eval x).ownBlock = some b → ∃ l0 e0, some l = some l0 ∧ s.live l0 = some e0 ∧ (g.ω l0).ownBlock = some b := fun b hb1 => ⟨l, _, rfl, p1, by rw [q1]; exact hb1⟩
                  generalize hvx : a.eval x = v at *
                  have hsh : ∃ old, OwnShape W e i.size v r.xs.length old ∧ Rel2 (RD W g.F) old (r.xs.flatMap r.T.rrow) ∧ (∀ b, v.ownBlock = some b → ∀ o, ¬ g.F b o) ∧ (∀ b cur fr, v.ownBlock = some b → W.heap[b]? = some (.cells cur e fr) → fr = (0, 0)) := by
                    rcases q2 with ⟨rfl, e0⟩ | ⟨_, b, cap, cur, rfl, r1, r2, r3, r4, r5, r6⟩
                    · exact ⟨[], .inl ⟨rfl, by rw [e0]; rfl⟩, by rw [e0]; exact ⟨rfl, by simp⟩, fun b (hb1 : (none : Option Nat) = some b) => (by cases hb1), fun b cur fr (hb1 : (none : Option Nat) = some b) => (by cases hb1)⟩
                    · rw [he] at r1
                      refine ⟨cur.toList.take (r.xs.length * i.size), .inr ⟨b, cap, cur, (0, 0), rfl, r1, r3, r4, by rw [← hTi.2]; exact r5, rfl, .inl rfl⟩, by rw [← hTi.2]; exact r2, fun b' hb1 => ?_, fun b' cur' fr' hb1 hh' => ?_⟩
                      · simp only [Value.ownBlock, Option.some.injEq] at hb1; subst hb1; exact r6
                      · simp only [Value.ownBlock, Option.some.injEq] at hb1; subst hb1; rw [r1] at hh'; cases hh'; rfl
                  obtain ⟨old, o1, o2, o3, o4⟩ := hsh
                  obtain ⟨v', W', news, r1, r2, r3⟩ := apps_slice (F := g.F) (ty := o.type) (T := r.T) hu (ht _ _ hi) hTi.1 hTi.2 (by rw [o2.1, flat_len, hTi.2]) o1 hry hC.1 hC.2
                  exact fin r1 (h.appRow (kill := some l) (ht _ _ hi) hd hb hm hn hTi hlive o3 o4 o1 o2 r3 r2)
                · cases hz
              · cases hz
            · cases hz
          · cases hz
        · rename_i hx
          split at hz
          · simp only [Option.some.injEq] at hz
            split at hz
            · rename_i htt
              subst htt
              split at hz
              · rename_i e T' ys hty hy
                have hu := look_und' ht hty
                split at hz
                · rename_i i hi
                  split at hz
                  · rename_i hTi
                    cases hz
                    have hC : ys.length ≤ maxLen ∧ ys.length * i.bytes ≤ 140737488355328 := hC
                    obtain ⟨vy, hvy, hyd⟩ := obind hy
                    have hry : RD W g.F (a.eval y) (X.sl T' ys).raw := V1.asD_rd (h.ev hvy).1 hyd
                    have hn0 : a.eval x = .slice none 0 0 := RD.unit_nil (h.ev hx).1
                    obtain ⟨v', W', news, r1, r2, r3⟩ := apps_slice (F := g.F) (ty := o.type) (T := T') (v := .slice none 0 0) (n := 0) (old := []) hu (ht _ _ hi) hTi.1 hTi.2 (by simp) (.inl ⟨rfl, rfl⟩) hry (by simpa using hC.1) (by simpa using hC.2)
                    rw [← hn0] at r1
                    have := h.appRow (kill := none) (dst := o.dst) (n' := n') (base := base) (T := T') (xs := []) (ys := ys) (v := .slice none 0 0) (old := []) (ht _ _ hi) hd hb hm hn hTi (fun b hb1 => by cases hb1) (fun b hb1 => by cases hb1) (fun b cur fr hb1 => by cases hb1) (.inl ⟨rfl, rfl⟩) ⟨rfl, by simp⟩ r3 r2
                    exact fin r1 this
                  · cases hz
                · cases hz
              · cases hz
            · cases hz
          · cases hz
        · cases hz
    · cases hz
  · -- convert
    rename_i src dst x ho
    split at hz
    · rename_i e hsrc hdst
      simp only [Option.some.injEq] at hz
      split at hz
      · rename_i b hx he
        cases hz
        have hxv : a.eval x = .string b := by
          have : RD W g.F (a.eval x) (.str b) := (h.ev hx).1
          generalize a.eval x = w at *
          cases this; rfl
        have hr := Lib.run_convert_string_bytes (P := P) W src dst e b (look_str ht hsrc) (look_und' ht hdst) (look_int ht he)
        have hg : Goes W (Lib.bytesWorld W e b) (fun _ => False) := ⟨rfl, rfl, rfl, by rw [Lib.bytesWorld_size]; omega, fun k hk _ => Lib.bytesWorld_at_old W e b k hk⟩
        unfold Oper.wp execOp
        simp only [ho, hxv, Sem.run_bind, hr, Sem.run_pure, Result.andThen_ok]
        exact h.fresh (b := W.heap.size) (m := b.size) hd hm hg (Nat.le_refl _) (by rw [Lib.bytesWorld_size]; omega) (fun hk => by
          refine RD.ofFlat (T := .int .u8) (xs := bytesOf b) (vals := Lib.strCells b) (bytesOf_length b) (grownCap_ge W b.size 0 e) Nat.one_pos (fun q u hq hu => ?_) (strCells_rel b)
          have hq' : q < b.size := by simpa [K.size] using hq
          refine ⟨?_, .inr ⟨rfl, hq'⟩⟩
          rw [Lib.bytesWorld_cell W e b q hq']
          have hq2 : q < b.data.toList.length := by rw [Array.length_toList]; exact hq'
          rw [← hu]
          simp only [Lib.strCells, List.getElem?_map, List.getElem?_eq_getElem hq2, Option.map_some, List.getD, Option.getD_some])
      · cases hz
    · rename_i e hsrc hdst
      split at hz
      · rename_i l T hx
        simp only [Option.some.injEq] at hz
        split at hz
        · rename_i e0 xs he hr
          cases hz
          obtain ⟨_, q2⟩ := h.rowVal (T := T) hr (h.ev hx).1
          have hu := look_und' ht hsrc
          have hud := look_str ht hdst
          have hue := look_int ht he
          have hrun : (convert src dst (a.eval x)).run P W = .ok (.string (strOfNums xs)) W := by
            have hrd : ∃ F', RD W F' (a.eval x) (X.sl (.int .u8) xs).raw := by
              rcases q2 with ⟨e1, e2⟩ | ⟨_, b, cap, cur, e1, r1, r2, r3, r4, r5, r6⟩
              · have e2 : xs = [] := e2
                subst e2
                exact ⟨fun _ _ => True, by rw [e1]; exact .slNil _⟩
              · refine ⟨fun _ _ => True, ?_⟩
                rw [e1]
                refine RD.ofFlat (T := .int .u8) (xs := xs) (vals := cur.toList.take (xs.length * (K.int .u8).size)) rfl r3 Nat.one_pos (fun q u hq hu => ⟨?_, trivial⟩) (r2.mono fun _ _ q => q.keep ⟨fun _ _ _ => trivial, fun _ _ _ => rfl⟩)
                rw [List.getElem?_take_of_lt hq, Array.getElem?_toList] at hu
                simp only [World.cell?, r1]; exact hu
            obtain ⟨F', hrd⟩ := hrd
            exact str_run hu hue hud hrd
          unfold Oper.wp execOp
          simp only [ho, Sem.run_bind, hrun, Sem.run_pure, Result.andThen_ok]
          exact ⟨g, h.val hd hm (.str _) trivial⟩
        · cases hz
      · cases hz
    · cases hz
  · -- makeSlice
    rename_i t x y ho
    split at hz
    · simp only [Option.some.injEq] at hz
      split at hz
      · rename_i e n m hty hx hy
        split at hz
        · rename_i i hi
          split at hz
          · rename_i T hk
            split at hz
            · rename_i z hun
              split at hz
              · rename_i hTi
                cases hz
                obtain ⟨⟨rfl, h0⟩, hsm, hby⟩ : (n = m ∧ 0 ≤ n) ∧ (n.toNat * i.size ≤ 16777216 ∧ n.toNat * i.bytes ≤ 16777216) := hC
                have hu := look_und' ht hty
                obtain ⟨j, hj, hjs, hjb, zv, hz, hzs, hzl, hzc⟩ := (ht e i hi).info
                obtain ⟨kl, hex⟩ := h.int hx
                obtain ⟨kc, hey⟩ := h.int hy
                obtain ⟨len, rfl⟩ : ∃ q : Nat, n = (q : Int) := ⟨n.toNat, by omega⟩
                rw [Int.toNat_natCast] at hsm hby
                generalize hcells : (Array.range (len * i.size)).map (zv.cells[· % zv.cells.size]!) = cells
                have hmax : len ≤ maxLen := by
                  have : len ≤ len * i.size := Nat.le_mul_of_pos_right _ hTi.1
                  simp only [maxLen]; omega
                have hrun : (Instr.makeSlice t (a.eval x) (a.eval y)).run P W = .ok (.slice (some ⟨W.heap.size, 0, none⟩) len len) (W.alloc (.cells cells e)) := by
                  have hb2 : (j.bytes : Int) * (len : Int) ≤ 281474976710656 := by
                    have : ((len * i.bytes : Nat) : Int) ≤ 16777216 := by omega
                    rw [Int.natCast_mul, Int.mul_comm] at this
                    rw [hjb]; omega
                  have := run_make (P := P) W t e j zv hu hj hz kl kc (len : Int) (len : Int) (by omega) (Int.le_refl _) hb2 (by simp only [maxLen] at hmax; omega)
                  rw [Int.toNat_natCast, hjs] at this
                  rw [hex, hey, this]
                  rw [← hcells]; rfl
                have hzero : Rel2 (RX W g.F) zv.cells.toList i.zero := ⟨by simp [hzs, hzl], fun q u c h1 h2 => constD_rd (hzc q u c h1 h2)⟩
                obtain ⟨v1, v2, e1, q1, q2⟩ := unrow_rd T _ z [] hun _ hzero
                have hv2 : v2 = [] := List.eq_nil_of_length_eq_zero q2.1
                subst hv2
                rw [List.append_nil] at e1
                have hclen : cells.size = len * i.size := by rw [← hcells]; simp
                unfold Oper.wp execOp
                simp only [ho, Sem.run_bind, hrun, Sem.run_pure, Result.andThen_ok, Int.toNat_natCast]
                refine h.mrow (kill := none) (Ch := fun _ => False) (e := e) (T := T) hd hb hm hn (goes_alloc W _) (fun _ => False.elim) (fun _ => False.elim) ⟨by rw [hTi.2]; exact hTi.1, by rw [(ht e i hi).cells]; exact hTi.2⟩
                  (.inr ⟨W.heap.size, len, cells, by rw [List.length_replicate], heap_alloc_new W _, by rw [List.length_replicate]; exact Nat.le_refl _, hmax, by rw [(ht e i hi).cells]; exact hclen, .inr (Nat.le_refl _), fun hk => ?_⟩)
                rw [List.length_replicate]
                refine Rel2.keepD hk ⟨by rw [flat_len, List.length_replicate]; simp [hclen, hTi.2], fun q u d h1 h2 => ?_⟩
                have hq : q < len * T.size := by
                  have := (List.getElem?_eq_some_iff.1 h2).1
                  rw [flat_len, List.length_replicate] at this; exact this
                rw [List.getElem?_take_of_lt hq, Array.getElem?_toList, ← hcells, Array.getElem?_map] at h1
                rw [flat_at T (by omega)] at h2
                obtain ⟨x0, hx0, hd0⟩ := obind h2
                have hx1 : x0 = z := by
                  rw [List.getElem?_replicate] at hx0
                  split at hx0
                  · cases hx0; rfl
                  · cases hx0
                subst hx1
                have hm0 : q % T.size < zv.cells.size := by rw [hzs, hTi.2]; exact Nat.mod_lt _ hTi.1
                rw [Array.getElem?_range, if_pos (by rw [← hTi.2]; exact hq)] at h1
                simp only [Option.map_some, Option.some.injEq] at h1
                have e2 : q % zv.cells.size = q % T.size := by rw [hzs, hTi.2]
                rw [e2, getElem!_pos zv.cells _ hm0] at h1
                refine q1.2 (q % T.size) u d ?_ hd0
                rw [← e1, Array.getElem?_toList, Array.getElem?_eq_getElem hm0, h1]
              · cases hz
            · cases hz
          · cases hz
        · cases hz
      · cases hz
    · cases hz
  · -- buildSlice of none
    rename_i t len ps ho
    split at hz
    · split at hz
      · rename_i _ _ hps
        simp only [Option.some.injEq] at hz
        split at hz
        · rename_i e hty
          split at hz
          · rename_i i hi
            split at hz
            · rename_i T hk
              split at hz
              · rename_i hTi
                cases hz
                have hu := look_und' ht hty
                obtain ⟨j, hj, hjs, hjb, zv, hz, hzs, hzl, hzc⟩ := (ht e i hi).info
                have arr0 : ∀ f : Nat → Value, (Array.range 0).map f = #[] := fun f => by apply Array.ext <;> simp
                have hp0 : ps = #[] := by cases ps; simp_all
                subst hp0
                have hrun : (Instr.buildSlice t 0 ((#[] : Array (Nat × Operand)).map fun (k, x) => (k, a.eval x))).run P W = .ok (.slice (some ⟨W.heap.size, 0, none⟩) 0 0) (W.alloc (.cells #[] e)) := by
                  simp only [Instr.buildSlice, run_underlying hu, Go.sizeOf, typeInfo, newRow, Sem.run_bind, Sem.run_pure, Result.andThen_ok, Nat.zero_mul, if_true, arr0]
                  simp [hj, Instr.fill]
                unfold Oper.wp execOp
                simp only [ho, Sem.run_bind, hrun, Sem.run_pure, Result.andThen_ok]
                refine h.mrow (kill := none) (Ch := fun _ => False) (e := e) (T := T) (xs := []) hd hb hm hn (goes_alloc W _) (fun _ => False.elim) (fun _ => False.elim) ⟨by rw [hTi.2]; exact hTi.1, by rw [(ht e i hi).cells]; exact hTi.2⟩
                  (.inr ⟨W.heap.size, 0, #[], rfl, heap_alloc_new W _, Nat.le_refl _, by decide, by simp, .inr (Nat.le_refl _), fun hk => ?_⟩)
                exact ⟨by simp, fun q u d h1 h2 => by simp at h2⟩
              · cases hz
            · cases hz
          · cases hz
        · cases hz
      · cases hz
    · cases hz
  · cases hz
end
end Zed
