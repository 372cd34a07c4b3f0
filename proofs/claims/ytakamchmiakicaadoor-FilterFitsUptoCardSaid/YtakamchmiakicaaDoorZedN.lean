/- ZED, fourteenth text: any operation, in the world. -/
import Derived.Test.YtakamchmiakicaaDoorZedM
namespace Zed
open Go
set_option linter.unusedVariables false
set_option linter.unusedSimpArgs false

/-- A choice: which way a test goes; what a call is handed and leaves. -/
inductive Ch where
  | b (v : Bool)
  | call (τ : List Nat) (nk : List (Nat × Nat × K)) (o : Out)
  | row
  | pix (o n i : Nat)
  | callR (τ : List Nat) (nk : List (Nat × Nat × K)) (o : Out)
def isRow : Option Ch → Bool
  | some .row => true
  | _ => false

def chosen (ch : Option Ch) (st : Stp) : Option Stp :=
  match ch with
  | some (.b v) => match st.z with
    | .one (.c (.d (.bool u))) => some ⟨.one (.c (.d (.bool v))), st.e, st.rd, some (match st.C with
      | none => u = v
      | some c => c ∧ u = v)⟩
    | _ => none
  | some (.pix o n i) => match st.z with
    | .one (.c (.ptr id off)) => some ⟨.one (.c (.pix id o n i)), st.e, st.rd, some (match st.C with
      | none => off = o + i ∧ i < n
      | some c => c ∧ off = o + i ∧ i < n)⟩
    | _ => none
  | _ => some st

/-- What is put is what is there. -/
def AllS (bx : Nat → Option (List Z1)) : List (Nat × List Z1) → Prop
  | [] => True
  | p :: r => (match bx p.1 with
    | some cs => p.2 = cs
    | none => False) ∧ AllS bx r
theorem allS_spec {bx : Nat → Option (List Z1)} : ∀ {l : List (Nat × List Z1)}, AllS bx l → ∀ p ∈ l, bx p.1 = some p.2
  | [], _, p, hp => by cases hp
  | q :: r, h, p, hp => by
    obtain ⟨h1, h2⟩ := h
    rcases List.mem_cons.1 hp with rfl | hp
    · cases hb : bx p.1 with
      | none => rw [hb] at h1; exact h1.elim
      | some cs => rw [hb] at h1; rw [show p.2 = cs from h1]
    · exact allS_spec h2 p hp
theorem impH_nolive {τ : List Nat} {live : Nat → Option Ow} {bx : Nat → Option (List Z1)} : ∀ {l : List Nat} {j0 : Nat} {B}, impH τ live bx j0 l = some ([], B) → ∀ k ∈ l, live k = none
  | [], _, _, _, k, hk => by cases hk
  | k' :: r, j0, B, h, k, hk => by
    simp only [impH] at h
    split at h
    · cases h
    · rename_i L' B' hr
      split at h
      · rename_i cs hb
        obtain ⟨cs', hc, e⟩ := omap h
        simp only [Prod.mk.injEq] at e
        obtain ⟨e1, _⟩ := e
        cases hlk : live k' with
        | some e0 => rw [hlk] at e1; cases e1
        | none =>
          rw [hlk] at e1
          have e1 : L' = [] := e1
          subst e1
          rcases List.mem_cons.1 hk with rfl | hk
          · exact hlk
          · exact impH_nolive hr k hk
      · obtain ⟨e0, hc, e⟩ := omap h
        simp only [Prod.mk.injEq] at e
        cases e.1

def callZ (P : Program) (base : Nat) (ch : Option Ch) (live : Nat → Option Ow) (bx : Nat → Option (List Z1)) (ev : Operand → Option V1) : Op → Option (Option (Stp × Nat))
  | .call ⟨.value (.func f), args, _⟩ => some (match ch with
    | some (.call τ nk out) => (callIn τ nk live bx ev args.toList).map fun inn => (⟨out.val.exp (sig τ base), out.eff τ base, τ, some (FnOK P f inn out)⟩, out.n)
    | some (.callR τ nk out) => (callIn τ nk live bx ev args.toList).bind fun inn => match inn.live, out.live with
      | [], [] => if out.bx.all (fun p => p.1.blt τ.length) then some (⟨out.val.exp (sig τ base), Eff.no, τ, some (FnOK P f inn out ∧ AllS bx (out.eff τ base).put)⟩, out.n) else none
      | _, _ => none
    | _ => none)
  | _ => none

def extZ (sl : Nat → Option Z) : Op → Option Stp
  | .extract (.tmp t) i => match sl t with
    | some (.tup vs) => (vs[i]?).map fun v => ⟨.one v, Eff.no, [], none⟩
    | _ => none
  | .move (.tmp t) => match sl t with
    | some (.tup vs) => some ⟨.tup vs, Eff.no, [], none⟩
    | _ => none
  | _ => none

def opZ (P : Program) (tab : Tab) (base : Nat) (ch : Option Ch) (s : S) (op : Op) : Option (Stp × Nat) :=
  match callZ P base ch s.live s.bx s.ev op with
  | some r => r
  | none => (match extZ s.sl op with
    | some st => chosen ch st
    | none => match newOp tab base (isRow ch) s.live s.bx s.ev op with
      | some r => r.bind (chosen ch)
      | none => (effOp tab base s.live s.bx s.ev op).bind (chosen ch)).map fun st => (st, 1)

section
variable {P : Program} {tab : Tab} {E : Ent} {g : G} {s : S} {a : Act} {W : World}

theorem look_und {t e : TypeId} (ht : TabOk P tab) (h : (look tab t).map TyI.ty = some (.slice e)) : P.underlying t = some (.slice e) := look_und' ht h

theorem effOp_wp (ht : TabOk P tab) (h : AI P E g s a W) {o : Oper} {st : Stp} {base : Nat} {n' : Nat → Prop} (hz : effOp tab base s.live s.bx s.ev o.op = some st) (hC : holds st.C)
    (hd : ∀ d, o.dst = some d → d < E.nt) (hb : ¬ s.us base) (hm : ∀ k, s.us k → n' k) (hn : n' base) {Q : Exit → Act → World → Prop} :
    o.wp P a W (fun a' W' => ∃ g', AI P E g' (s.go o.dst st.z st.e n') a' W') Q := by
  have pure : ∀ {op : Op} {rd : List Nat} {p : V1 × Option Prop} , o.op = op → valOp tab s.bx s.ev op = some p → (⟨.one p.1, Eff.no, rd, p.2⟩ : Stp) = st →
      o.wp P a W (fun a' W' => ∃ g', AI P E g' (s.go o.dst st.z st.e n') a' W') Q := by
    rintro op rd ⟨z, C⟩ ho hv rfl
    exact valOp_wp ht h (by rw [ho]; exact hv) hC hd hm
  unfold effOp at hz
  split at hz
  · -- alloc
    rename_i t ho
    obtain ⟨i, hi, rfl⟩ := omap hz
    obtain ⟨j, v, h1, h2, h3, h4, h5⟩ := zero_rd (W := W) (g := g) (ht t i hi)
    obtain ⟨g', h'⟩ := h.new (dst := o.dst) (vs := v.cells) (ty := t) (by cases i.zero with
      | nil => rfl
      | cons z r => cases r with
        | nil => rfl
        | cons w r => exact isRun_two _ _ _) hd hb hm hn h5 (d_below _ _)
    unfold Oper.wp execOp
    simp only [ho, Instr.alloc, zeroValue, typeInfo, newVar, newRow, h1, h3, Sem.run_bind, Sem.run_pure, Result.andThen_ok]
    simp [h1, h3]
    exact ⟨g', h'⟩
  · -- box
    rename_i t x ho
    obtain ⟨v, hv, hz⟩ := obind hz
    split at hz
    case isFalse => cases hz
    rename_i hplv
    cases hz
    obtain ⟨q1, q2⟩ := h.ev hv
    obtain ⟨g', h'⟩ := h.new (dst := o.dst) (vs := (a.eval x).cells) (ty := t) (plain_run hplv) hd hb hm hn (cells_rd q1) (cells_below q2)
    unfold Oper.wp execOp
    simp [ho, Instr.box, newVar, newRow]
    exact ⟨g', h'⟩
  · -- store
    rename_i t x y ho
    split at hz
    · rename_i i id off v hi hx hy
      obtain ⟨cs, hbx, hz⟩ := obind hz
      split at hz
      · rename_i hlen
        obtain ⟨hlen, hpl1, hpl2⟩ := hlen
        cases hz
        have hC : off + i.size ≤ cs.length := hC
        obtain ⟨q1, q2⟩ := h.ev hx
        obtain ⟨p1, p2⟩ := h.ev hy
        have hp : a.eval x = .pointer (some ⟨g.ρ id, off, none⟩) := q1
        have hcl := cells_rd p1
        obtain ⟨vs, ty, hh, hr⟩ := (h.h.box id cs (bc_of hbx (plain_run hpl1))).1.plain hpl1
        have hvl : (a.eval y).cells.size = i.size := by have := hcl.1; simp at this; omega
        have hvs : vs.size = cs.length := by have := hr.1; simpa using this
        have hone : ∀ u ∈ (a.eval y).cells.toList, u.oneCell' = true := by
          intro u hu
          obtain ⟨j, hj⟩ := List.mem_iff_getElem?.1 hu
          have hjl : j < v.cells.length := by
            rcases Nat.lt_or_ge j v.cells.length with q | q
            · exact q
            · simp [List.getElem?_eq_none (show (a.eval y).cells.toList.length ≤ j by rw [hcl.1]; exact q)] at hj
          have := hcl.2 j u _ hj (List.getElem?_eq_getElem hjl)
          cases hz : v.cells[j] with
          | d x => rw [hz] at this; exact RD.one this
          | own l sz xs => rw [hz] at this; exact RD.one this.1
          | ptr id off => rw [hz] at this; rw [show u = _ from this]; rfl
          | nn T xs => rw [hz] at this; exact RD.one this.1
          | pix id off n i => rw [hz] at this; rw [this.2]; rfl
          | row l T => rw [hz] at this; obtain ⟨_, _, _, _, e⟩ := this; rw [e]; rfl
          | pel l T i off => rw [hz] at this; obtain ⟨_, _, _, _, _, e⟩ := this; rw [e]; rfl
          | run T xs => rw [hz] at this; exact this.elim
          | mref id => rw [hz] at this; rw [show u = _ from this]; rfl
          | mp k k' l => rw [hz] at this; exact this.elim
          | el cs => rw [hz] at this; obtain ⟨b, o, rfl, _⟩ := this; rfl
        have hst := run_storeCells_at (P := P) (g.ρ id) off ty (a.eval y).cells.toList 0 vs W hh (by simp; omega) hone
        have h' := h.write (dst := o.dst) (cs := cs) hpl1 hpl2 (vs' := (vs.toList.take off ++ (a.eval y).cells.toList ++ vs.toList.drop (off + i.size)).toArray) (cs' := cs.take off ++ v.cells ++ cs.drop (off + i.size)) hd hm hbx (by
          refine ⟨by simp; omega, fun j u d hj hd => ?_⟩
          by_cases h1 : j < off
          · rw [List.toList_toArray, List.append_assoc, List.getElem?_append_left (by simp; omega), List.getElem?_take_of_lt h1] at hj
            rw [List.append_assoc, List.getElem?_append_left (by simp; omega), List.getElem?_take_of_lt h1] at hd
            exact hr.2 j u d hj hd
          · by_cases h2 : j < off + i.size
            · rw [List.toList_toArray, List.append_assoc, List.getElem?_append_right (by simp; omega), List.getElem?_append_left (by simp; omega)] at hj
              rw [List.append_assoc, List.getElem?_append_right (by simp; omega), List.getElem?_append_left (by simp; omega)] at hd
              have e1 : j - (List.take off vs.toList).length = j - off := by simp; omega
              have e2 : j - (List.take off cs).length = j - off := by simp; omega
              rw [e1] at hj
              rw [e2] at hd
              exact hcl.2 _ u d hj hd
            · rw [List.toList_toArray, List.getElem?_append_right (by simp; omega), List.getElem?_drop] at hj
              rw [List.getElem?_append_right (by simp; omega), List.getElem?_drop] at hd
              have e1 : off + i.size + (j - (List.take off vs.toList ++ (a.eval y).cells.toList).length) = j := by simp; omega
              have e2 : off + i.size + (j - (List.take off cs ++ v.cells).length) = j := by simp; omega
              rw [e1] at hj
              rw [e2] at hd
              exact hr.2 j u d hj hd) (fun z hz => by
          rcases List.mem_append.1 hz with h1 | h1
          · rcases List.mem_append.1 h1 with h1 | h1
            · exact (h.boxLow id cs hbx).2 z (List.mem_of_mem_take h1)
            · exact cells_below p2 z h1
          · exact (h.boxLow id cs hbx).2 z (List.mem_of_mem_drop h1))
        have e0 : off + 0 + (a.eval y).cells.toList.length = off + i.size := by simp; omega
        rw [e0, Nat.add_zero] at hst
        have hrun : (Instr.storeAt t (a.eval x) (a.eval y)).run P W = .ok () (W.setRow (g.ρ id) (vs.toList.take off ++ (a.eval y).cells.toList ++ vs.toList.drop (off + i.size)).toArray) := by
          rw [hp]
          simp only [Instr.storeAt, Instr.sureAddr, storeVar, Sem.run_bind, Sem.run_pure, Result.andThen_ok, (ht t i hi).size, hvl]
          simpa using hst
        unfold Oper.wp execOp
        simp only [ho, Sem.run_bind, hrun, Sem.run_pure, Result.andThen_ok]
        exact ⟨g, h'⟩
      · cases hz
    · cases hz
  · -- buildSlice
    rename_i t len ps ho
    split at hz
    · rename_i e hty
      split at hz
      · rename_i i l hi hp
        split at hz
        · rename_i T hk
          split at hz
          · rename_i hcond
            obtain ⟨cs, hf, hz⟩ := obind hz
            obtain ⟨xs, hxs, rfl⟩ := omap hz
            exact build_wp ht h ho hty hi hp hcond.1 hcond.2.1 hcond.2.2 hf hxs hd hb hm hn
          · cases hz
        · cases hz
      · cases hz
    · cases hz
  · -- makeSlice
    rename_i t x y ho
    split at hz
    · rename_i e n m hty hx hy
      split at hz
      · rename_i i hi
        split at hz
        · rename_i T hk
          split at hz
          · rename_i hcond
            obtain ⟨xs, hxs, rfl⟩ := omap hz
            obtain ⟨⟨rfl, h0⟩, ⟨hs1, hs2⟩, hpos, hTs⟩ := hcond
            exact make_wp ht h ho hty hi hx hy h0 hs1 hs2 hpos hTs hxs hd hb hm hn
          · cases hz
        · cases hz
      · cases hz
    · cases hz
  · -- convert
    rename_i src dst x ho
    split at hz
    · rename_i e e' h1 h2
      split at hz
      · rename_i hee
        subst hee
        split at hz
        · rename_i l T xs h8 hv
          split at hz
          · rename_i e2 hlv
            split at hz
            · rename_i he2
              subst he2
              cases hz
              have hu1 := look_und ht h1
              obtain ⟨i8, d8, _, _, hu8, hf8⟩ := und_of ht h8
              cases hf8
              obtain ⟨q1, q2⟩ := (h.ev hv).1
              have hown := h.h.own l _ hlv
              rw [q2] at hown
              have hblk : ∀ b, (a.eval x).ownBlock = some b → ∃ l0 e0, some l = some l0 ∧ s.live l0 = some e0 ∧ (g.ω l0).ownBlock = some b := fun b hb1 => ⟨l, _, rfl, hlv, by rw [q2]; exact hb1⟩
              generalize hvx : a.eval x = v at *
              rcases hown with ⟨_, hk0⟩ | ⟨g0, n, cap, cur, fr, rfl, hg0, hnc, hcm, hcs, hf, hful, hfr, _⟩
              · exact absurd rfl hk0
              · have hn1 : n = cap := hful (by simp)
                subst hn1
                have hsh : W.shape? g0 = some (e2, cur.size) := by unfold World.shape?; rw [hg0]
                obtain ⟨fr', hW'⟩ : ∃ fr', (W.freeze ⟨g0, cur.size, none⟩ 1).heap[g0]? = some (.cells cur e2 fr') := by
                  unfold World.freeze
                  rw [if_neg (by decide)]
                  simp only [Array.getElem?_modify, if_true, hg0, Option.map_some]
                  exact ⟨_, rfl⟩
                have hg : Goes W (W.freeze ⟨g0, cur.size, none⟩ 1) (fun b => b = g0) := by
                  unfold World.freeze
                  rw [if_neg (by decide)]
                  exact ⟨rfl, rfl, rfl, by simp, fun b _ hne => by simp [Array.getElem?_modify, Ne.symm hne]⟩
                obtain ⟨g', h'⟩ := h.row (dst := o.dst) (kill := some l) (Ch := fun b => b = g0) (v := .slice (some ⟨g0, 0, none⟩) n n) (e := ⟨e2, 1⟩) (n := n) (T := T) (xs := xs) (base := base) (n' := n') hd hb hm hn hg
                  (fun b hb1 => hblk b (by rw [hb1]; rfl)) (fun b o hb1 _ => by subst hb1; simp only [World.cell?, hW', hg0]) (show (1 : Nat) ≠ 2 by decide)
                  (.inr ⟨g0, n, cur, fr', rfl, hW', Nat.le_refl _, hcm, hcs, .inl rfl, hf, fun _ => rfl, .inr rfl⟩) (fun hk => q1.keep hk)
                unfold Oper.wp execOp
                simp [ho, hvx, convert, run_underlying hu1, run_underlying hu8, markStringish, hsh]
                exact ⟨g', h'⟩
            · cases hz
          · cases hz
        · cases hz
      · cases hz
    · obtain ⟨p, hp, e⟩ := omap hz
      exact pure ho hp e
  · -- append
    rename_i args ats ho
    obtain ⟨args⟩ := args
    obtain ⟨ats⟩ := ats
    simp only at hz
    split at hz
    · rename_i x y t t' 
      split at hz
      · rename_i htt
        subst htt
        split at hz
        · rename_i e vx T' ys hty hx hy
          split at hz
          · rename_i i hi
            obtain ⟨vy, hvy, hyd⟩ := obind hy
            have hu := look_und ht hty
            have hry : RD W g.F (a.eval y) (X.sl T' ys).raw := V1.asD_rd (h.ev hvy).1 hyd
            have fin : ∀ {z : Z} {ef : Eff}, (∃ v' W' g', (Builtin.append_ #[t, t] o.type #[a.eval x, a.eval y]).run P W = .ok v' W' ∧ AI P E g' (s.go o.dst z ef n') (a.put o.dst v') W') →
                o.wp P a W (fun a' W' => ∃ g', AI P E g' (s.go o.dst z ef n') a' W') Q := by
              rintro z ef ⟨v', W', g', r1, r2⟩
              unfold Oper.wp execOp
              simp [ho, resolve, invoke, builtin, r1]
              exact ⟨g', r2⟩
            split at hz
            · rename_i l T xs
              split at hz
              · rename_i e' k zs hlv hzs
                split at hz
                · rename_i hl
                  cases hz
                  have hC : xs.length + zs.length ≤ maxLen ∧ (xs.length + zs.length) * i.bytes ≤ 140737488355328 := hC
                  obtain ⟨q1, q2⟩ := (h.ev hx).1
                  have hle := hl.2
                  subst hle
                  exact fin (h.append (kill := some l) (T := T) hu (ht _ i hi) hl.1.1 hl.1.2 hd hb hm hn q1 (q2 ▸ h.h.own l _ hlv) (fun b hb1 => ⟨l, _, rfl, hlv, by rw [q2]; exact hb1⟩) (cast_rd hry hzs) hC.1 hC.2)
                · cases hz
              · cases hz
            · split at hz
              · rename_i hcond
                cases hz
                have hC : ys.length ≤ maxLen ∧ ys.length * i.bytes ≤ 140737488355328 := hC
                have hn0 : a.eval x = .slice none 0 0 := by
                  have q1 : RD W g.F (a.eval x) (.sl 0 _) := (h.ev hx).1
                  exact (RD.nil_any q1 0).1
                have := h.append (kill := none) (k0 := 0) (v := .slice none 0 0) (T := T') (xs := []) (dst := o.dst) (ty := o.type) hu (ht e i hi) hcond.1 hcond.2 hd hb hm hn (.slNil _) (.inl ⟨rfl, (show (0 : Nat) ≠ 1 by decide)⟩) (fun b hb1 => by cases hb1) hry (by simpa using hC.1) (by simpa using hC.2)
                exact fin (by rw [hn0]; simpa using this)
              · split at hz
                · rename_i hun
                  subst hun
                  cases hz
                  have hn0 : a.eval x = .slice none 0 0 := by
                    have q1 : RD W g.F (a.eval x) (.sl 0 _) := (h.ev hx).1
                    exact (RD.nil_any q1 0).1
                  have hn1 : a.eval y = .slice none 0 0 := by
                    have q1 : RD W g.F (a.eval y) (.sl 0 _) := hry
                    exact (RD.nil_any q1 0).1
                  obtain ⟨j, hj, _⟩ := (ht e i hi).info
                  have hr := append_none (P := P) (W := W) t o.type e j hu hj none 0 0 (Nat.le_refl _)
                  refine fin ⟨.slice none 0 0, W, g, by rw [hn0, hn1]; exact hr, h.val hd hm ?_ trivial⟩
                  show RD W g.F _ _
                  exact .slNil _
                · cases hz
            · cases hz
          · cases hz
        · cases hz
      · cases hz
    · cases hz
  · rename_i ho; obtain ⟨p, hp, e⟩ := omap hz; exact pure ho hp e
  · rename_i ho; obtain ⟨p, hp, e⟩ := omap hz; exact pure ho hp e
  · rename_i ho; obtain ⟨p, hp, e⟩ := omap hz; exact pure ho hp e
  · cases hz
  · obtain ⟨p, hp, e⟩ := omap hz; exact pure rfl hp e
end
end Zed
