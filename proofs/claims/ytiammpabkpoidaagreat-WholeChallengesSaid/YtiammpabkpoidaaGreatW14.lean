/- Texts ZedV, ZedW of our own machine for the walk of WholeChallenges, one behind the other. -/
import Derived.Test.YtiammpabkpoidaaGreatW13
namespace Zed
open Go
set_option linter.unusedVariables false
set_option linter.unusedSimpArgs false

/-- The code's own moves, up to a region, a test, a return. -/
noncomputable def adm : Nat → List Item → List Item
  | 0, k => k
  | n + 1, .code .skip :: k => adm n k
  | n + 1, .code (.seq a b) :: k => adm n (.code a :: .code b :: k)
  | n + 1, .code (.block id c) :: k => adm n (.code c :: .inBlock id :: k)
  | n + 1, .code (.loop c) :: k => adm n (.code c :: .inLoop c :: k)
  | n + 1, .code (.scope c) :: k => adm n (.code c :: .inScope c :: k)
  | n + 1, .code (.label _) :: k => adm n k
  | n + 1, .code (.exit id) :: k => match exitTo id k with
    | some k' => adm n k'
    | none => .code (.exit id) :: k
  | n + 1, .inLoop c :: k => adm n (.code c :: .inLoop c :: k)
  | n + 1, .inBlock _ :: k => adm n k
  | n + 1, .inScope _ :: k => adm n k
  | _ + 1, k => k

theorem step_scope {P : Program} {b : Frame} {a : Act} {cs : List Frame} {W : World} {k : List Item} {c : Code} :
    step P (lone (b.at a (.code (.scope c) :: k)) cs W) = .next (lone (b.at a (.code c :: .inScope c :: k)) cs W) :=
  step_lone_go (by simp [stepG, stepG.exec, Frame.at])
theorem step_inScope {P : Program} {b : Frame} {a : Act} {cs : List Frame} {W : World} {k : List Item} {c : Code} :
    step P (lone (b.at a (.inScope c :: k)) cs W) = .next (lone (b.at a k) cs W) :=
  step_lone_go (by simp [stepG, stepG.exec, Frame.at])

theorem adm_steps {P : Program} {b : Frame} {a : Act} {cs : List Frame} {W : World} : ∀ (n : Nat) (k : List Item), Steps P (lone (b.at a k) cs W) (lone (b.at a (adm n k)) cs W)
  | 0, k => .refl _ _
  | n + 1, k => by
    unfold adm
    split
    · rename_i heq; cases heq
    · rename_i heq; cases heq; exact .head step_skip (adm_steps n _)
    · rename_i heq; cases heq; exact .head step_seq (adm_steps n _)
    · rename_i heq; cases heq; exact .head step_block (adm_steps n _)
    · rename_i heq; cases heq; exact .head step_loop (adm_steps n _)
    · rename_i heq; cases heq; exact .head step_scope (adm_steps n _)
    · rename_i heq; cases heq; exact .head step_label (adm_steps n _)
    · rename_i heq; cases heq
      split
      · rename_i hk; exact .head (step_exit hk) (adm_steps n _)
      · exact .refl _ _
    · rename_i heq; cases heq; exact .head step_inLoop (adm_steps n _)
    · rename_i heq; cases heq; exact .head step_inBlock (adm_steps n _)
    · rename_i heq; cases heq; exact .head step_inScope (adm_steps n _)
    · exact .refl _ _

/-- Behind a region: the tests, as chosen. -/
noncomputable def land : Nat → List Bool → S → List Item → Option (List Item × List Prop)
  | 0, _, _, _ => none
  | n + 1, ds, s, k => match adm 1000 k with
    | .code (.cond c x y) :: k' => match ds, s.ev c with
      | d :: ds', some (.c (.d (.bool u))) => (land n ds' s (.code (if d then x else y) :: k')).map fun p => (p.1, (u = d) :: p.2)
      | _, _ => none
    | k' => some (k', [])

structure Rn where
  sl : List (Nat × Z)
  L : List (Nat × Ow)
  B : List (Nat × List Z1)
  n : Nat
noncomputable def Rn.st (r : Rn) : St := ⟨r.sl, r.L.map fun p => (p.1, some p.2), r.B, r.n⟩
noncomputable def renP (pk : Nat) (keep μ : List Nat) (s : St) : Option Rn :=
  match impSl μ s.sl keep, impD μ (lvOf s.live) (look s.bx) 0 μ with
  | some sl, some (L, B) => if nodupB μ && pinB pk 0 μ then some ⟨sl, L, B, μ.length⟩ else none
  | _, _ => none

/-- A choice of a step: which way, the slots and the numbers to keep. -/
structure How where
  orc : List (Nat × Ch)
  ds : List Bool
  co : List Co
  keep : List Nat
  mu : List Nat

noncomputable def stepP (P : Program) (tab : Tab) (nt pk : Nat) (h : How) (k : List Item) (s : St) : Option (List Item × Rn × List Prop) :=
  match k with
  | .code (.region _ ops draw) :: k' => match runZ P tab ops h.orc 0 ops.toList s with
    | some (s1, tr, C) => if regOk ops draw tr && dstB nt ops then
        match land 20 h.ds s1.den k', (coAll h.co s1).bind (renP pk h.keep h.mu) with
        | some (k2, C2), some r => some (k2, r, C ++ C2)
        | _, _ => none
      else none
    | none => none
  | _ => none

/-- The step to the next point. -/
noncomputable def stepZ (P : Program) (tab : Tab) (nt pk : Nat) (h : How) (k : List Item) (s : St) : Option (List Item × St × List Prop) :=
  (stepP P tab nt pk h k s).map fun p => (p.1, p.2.1.st, p.2.2)

noncomputable def retV (tab : Tab) (s : S) : List ResultVar → Option (List V1)
  | [] => some []
  | .tmp t :: r => match s.ev (.tmp t), retV tab s r with
    | some v, some l => some (v :: l)
    | _, _ => none
  | .cell a t :: r => match s.ev (.tmp a), tlook tab t, retV tab s r with
    | some (.c (.ptr id o)), some i, some l => ((s.bx id).bind fun cs => if plainB cs then readZ i (cs.drop o) else none).map fun v => v :: l
    | _, _, _ => none
noncomputable def tupV : List V1 → Z
  | [v] => .one v
  | vs => .tup vs
noncomputable def isRet : List Item → Bool
  | [] => true
  | .code .ret :: _ => true
  | _ => false
/-- The step to the end. -/
noncomputable def endZ (P : Program) (tab : Tab) (rs : List ResultVar) (nt pk : Nat) (h : How) (k : List Item) (s : St) : Option (Out × List Prop) :=
  match stepP P tab nt pk h k s with
  | some (k2, r, C) => if isRet k2 then (retV tab r.st.den rs).map fun vs => (⟨tupV vs, r.L, r.B, r.n⟩, C) else none
  | none => none

section
variable {P : Program} {tab : Tab} {E : Ent} {g : G} {a : Act} {W : World}

theorem renP_ren {pk : Nat} {keep μ : List Nat} {s : St} {r : Rn} (h : renP pk keep μ s = some r) : renSt pk keep μ s = some r.st := by
  unfold renP at h
  unfold renSt
  split at h
  · rename_i sl L B h1 h2
    rw [h1, h2]
    simp only
    split at h
    · rename_i hc; cases h; rw [if_pos hc]; rfl
    · cases h
  · cases h

theorem allC_append {C D : List Prop} (h : AllC (C ++ D)) : AllC C ∧ AllC D := by
  induction C with
  | nil => exact ⟨trivial, h⟩
  | cons p C ih => exact ⟨⟨h.1, (ih h.2).1⟩, (ih h.2).2⟩

theorem land_steps {s : S} {b : Frame} {cs : List Frame} (h : AI P E g s a W) : ∀ {n : Nat} {ds : List Bool} {k k2 : List Item} {C : List Prop}, land n ds s k = some (k2, C) → AllC C →
    Steps P (lone (b.at a k) cs W) (lone (b.at a k2) cs W)
  | 0, _, _, _, _, hl, _ => by cases hl
  | n + 1, ds, k, k2, C, hl, hC => by
    simp only [land] at hl
    split at hl
    · rename_i c x y k' hk
      split at hl
      · rename_i d ds' u hu
        obtain ⟨p, hp, e⟩ := omap hl
        obtain ⟨p1, p2⟩ := p
        simp only [Prod.mk.injEq] at e
        obtain ⟨rfl, rfl⟩ := e
        obtain ⟨hud, hC⟩ := hC
        subst hud
        have hev : a.eval c = .bool u := by
          have : RD W g.F (a.eval c) (.bool u) := (h.ev hu).1
          generalize a.eval c = v at *
          cases this; rfl
        have h1 := adm_steps (P := P) (b := b) (a := a) (cs := cs) (W := W) 1000 k
        rw [hk] at h1
        exact h1.trans (.head (step_cond hev) (land_steps h hp hC))
      · cases hl
    · cases hl
      exact adm_steps 1000 k

/-- A call has come to its end, and left 'o'. -/
noncomputable def Ends (P : Program) (E : Ent) (rs : Array ResultVar) (o : Out) (a : Act) (W : World) : Prop :=
  a.defers = E.df ∧ ∃ v, (do
    let vs ← rs.mapM fun
      | .tmp t => pure (a.tmps.getD t undef)
      | .cell x t => do loadVar t (← asAddr (a.tmps.getD x undef))
    pure (if h : vs.size = 1 then vs[0] else .tuple vs) : Sem Value).run P W = .ok v W ∧
    ∃ g, RZ W g v o.val ∧ HI P E g (look o.live) (bc (look o.bx)) W ∧ HR P g (look o.live) (look o.bx) W ∧ WB E g.F W ∧ ∀ j, j < E.pk → g.ρ j = E.ρ0 j ∧ g.ω j = E.ω0 j

/-- From here on a call comes to its end, and leaves 'o'. -/
noncomputable def Runs (P : Program) (rs : Array ResultVar) (nt pk : Nat) (k : List Item) (s : St) (o : Out) : Prop :=
  ∀ (E : Ent) (g : G) (a : Act) (W : World), E.pk = pk → E.nt = nt → AI P E g s.den a W → ∀ (b : Frame) (cs : List Frame), ∃ a' W' todo, Ends P E rs o a' W' ∧
    Steps P (lone (b.at a k) cs W) (lone { b.at a' todo with mode := .returning } cs W')

theorem stepP_run (hmix : P.follows .mixedOrders = true) (ht : TabOk P tab) {h : How} {k k2 : List Item} {s : St} {r : Rn} {C : List Prop} (hs : stepP P tab E.nt E.pk h k s = some (k2, r, C)) (hC : AllC C) (ha : AI P E g s.den a W) (b : Frame) (cs : List Frame) :
    ∃ g' a' W', AI P E g' r.st.den a' W' ∧ Steps P (lone (b.at a k) cs W) (lone (b.at a' k2) cs W') := by
  unfold stepP at hs
  split at hs
  · rename_i id ops draw k'
    split at hs
    · rename_i s1 tr C1 hr
      split at hs
      · rename_i hc
        simp only [Bool.and_eq_true] at hc
        split at hs
        · rename_i k3 C2 r' hl hrn
          cases hs
          obtain ⟨c1, c2⟩ := allC_append hC
          obtain ⟨e, a1, W1, hq, harr⟩ := region_run (id := id) hmix ht hr c1 hc.1 hc.2 ha b k' cs
          cases e <;> simp only [Nrm] at hq
          obtain ⟨g1, h1⟩ := hq
          obtain ⟨s1', hco, hrn⟩ := obind hrn
          obtain ⟨g2, h2⟩ := h1.coAll hco
          exact ⟨_, a1, W1, h2.ren (renP_ren hrn), Steps.trans harr (land_steps h1 hl c2)⟩
        · cases hs
      · cases hs
    · cases hs
  · cases hs

/-- THE STEP. -/
theorem Runs.step (hmix : P.follows .mixedOrders = true) (ht : TabOk P tab) {rs : Array ResultVar} {nt pk : Nat} (h : How) {k k2 : List Item} {s s2 : St} {o : Out} {C : List Prop} (hs : stepZ P tab nt pk h k s = some (k2, s2, C)) (hC : AllC C) (hr : Runs P rs nt pk k2 s2 o) : Runs P rs nt pk k s o := by
  intro E g a W hpk hnt ha b cs
  obtain ⟨p, hp, e⟩ := omap hs
  obtain ⟨k2', r, C'⟩ := p
  simp only [Prod.mk.injEq] at e
  obtain ⟨rfl, rfl, rfl⟩ := e
  subst hpk; subst hnt
  obtain ⟨g1, a1, W1, h1, h2⟩ := stepP_run hmix ht hp hC ha b cs
  obtain ⟨a2, W2, todo, h3, h4⟩ := hr E g1 a1 W1 rfl rfl h1 b cs
  exact ⟨a2, W2, todo, h3, h2.trans h4⟩

theorem retV_run (ht : TabOk P tab) {s : S} (h : AI P E g s a W) : ∀ {rs : List ResultVar} {vs : List V1}, retV tab s rs = some vs → ∃ us : List Value, (rs.mapM fun
      | .tmp t => pure (a.tmps.getD t undef)
      | .cell x t => do loadVar t (← asAddr (a.tmps.getD x undef)) : Sem (List Value)).run P W = .ok us W ∧ us.length = vs.length ∧ ∀ (j : Nat) (u : Value) (v : V1), us[j]? = some u → vs[j]? = some v → RV W g u v
  | [], vs, hr => by simp [retV] at hr; subst hr; exact ⟨[], rfl, rfl, by simp⟩
  | .tmp t :: r, vs, hr => by
    simp only [retV] at hr
    split at hr
    · rename_i v l h1 h2
      cases hr
      obtain ⟨us, q1, q2, q3⟩ := retV_run ht h h2
      refine ⟨a.tmps.getD t undef :: us, ?_, by simp [q2], fun j u x hu hx => ?_⟩
      · rw [List.mapM_cons]
        simp only [Sem.run_bind, Sem.run_pure, Result.andThen_ok, q1]
      · cases j with
        | zero => simp at hu hx; subst hu; subst hx; have := (h.ev h1).1; simpa [Act.eval] using this
        | succ j => exact q3 j u x (by simpa using hu) (by simpa using hx)
    · cases hr
  | .cell x t :: r, vs, hr => by
    simp only [retV] at hr
    split at hr
    · rename_i id o i l h1 h2 h3
      obtain ⟨v, hv, rfl⟩ := omap hr
      obtain ⟨cs, hb, hz⟩ := obind hv
      split at hz
      case isFalse => cases hz
      rename_i hpl
      obtain ⟨us, q1, q2, q3⟩ := retV_run ht h h3
      obtain ⟨vs', p1, p2⟩ := box_cells h.h hb hpl o
      obtain ⟨v', r1, r2⟩ := readZ_run (ht _ _ h2) p1 p2 hz
      have e : a.eval (.tmp x) = .pointer (some ⟨g.ρ id, o, none⟩) := (h.ev h1).1
      have e' : a.tmps.getD x undef = .pointer (some ⟨g.ρ id, o, none⟩) := by simpa [Act.eval] using e
      refine ⟨v' :: us, ?_, by simp [q2], fun j u y hu hy => ?_⟩
      · have h0 : (do loadVar t (← asAddr (a.tmps.getD x undef)) : Sem Value).run P W = .ok v' W := by rw [e', Sem.run_bind]; exact r1
        rw [List.mapM_cons, Sem.run_bind]
        simp only [h0, Result.andThen_ok, Sem.run_bind, q1, Sem.run_pure]
      · cases j with
        | zero => simp at hu hy; subst hu; subst hy; exact r2
        | succ j => exact q3 j u y (by simpa using hu) (by simpa using hy)
    · cases hr

/-- THE END. -/
theorem Runs.fin (hmix : P.follows .mixedOrders = true) (ht : TabOk P tab) {rs : Array ResultVar} {nt pk : Nat} (h : How) {k : List Item} {s : St} {o : Out} {C : List Prop} (hs : endZ P tab rs.toList nt pk h k s = some (o, C)) (hC : AllC C) : Runs P rs nt pk k s o := by
  intro E g a W hpk hnt ha b cs
  subst hpk; subst hnt
  unfold endZ at hs
  split at hs
  · rename_i k2 r C' hp
    split at hs
    · rename_i hret
      obtain ⟨vs, hv, e⟩ := omap hs
      simp only [Prod.mk.injEq] at e
      obtain ⟨rfl, rfl⟩ := e
      obtain ⟨g1, a1, W1, h1, h2⟩ := stepP_run hmix ht hp hC ha b cs
      obtain ⟨us, q1, q2, q3⟩ := retV_run ht h1 hv
      have hret' : ∃ todo, Steps P (lone (b.at a1 k2) cs W1) (lone { b.at a1 todo with mode := .returning } cs W1) := by
        unfold isRet at hret
        split at hret
        · exact ⟨_, .one step_end⟩
        · exact ⟨_, .one step_ret⟩
        · cases hret
      obtain ⟨todo, hst⟩ := hret'
      refine ⟨a1, W1, todo, ⟨h1.defers, (if h : us.toArray.size = 1 then us.toArray[0] else .tuple us.toArray), ?_, g1, ?_, ?_, ?_, h1.b, h1.pin⟩, h2.trans hst⟩
      · rw [Array.mapM_eq_mapM_toList]
        simp only [Sem.run_bind, Sem.run_map, q1, Result.andThen_ok, Sem.run_pure]
      · cases vs with
        | nil =>
          have : us = [] := List.eq_nil_of_length_eq_zero q2
          subst this
          exact ⟨#[], rfl, rfl, by simp⟩
        | cons v vs =>
          cases vs with
          | nil =>
            obtain ⟨u, rfl⟩ : ∃ u, us = [u] := by
              match us, q2 with
              | [u], _ => exact ⟨u, rfl⟩
            exact q3 0 u v rfl rfl
          | cons w vs =>
            have hne : ¬ us.toArray.size = 1 := by simp at q2 ⊢; omega
            rw [dif_neg hne]
            exact ⟨us.toArray, rfl, by simp [q2], fun j u x hu hx => q3 j u x (by simpa using hu) hx⟩
      · have := h1.h
        simp only [Rn.st, St.den, lvOf_map] at this
        exact this
      · have := h1.r
        simp only [Rn.st, St.den, lvOf_map] at this
        exact this
    · cases hs
  · cases hs
end
end Zed
namespace Zed
open Go
set_option linter.unusedVariables false
set_option linter.unusedSimpArgs false

noncomputable def argSl : Nat → List V1 → List (Nat × Z)
  | _, [] => []
  | i, v :: r => (i, .one v) :: argSl (i + 1) r
noncomputable def Inn.st (i : Inn) : St := ⟨argSl 0 i.args, i.live.map fun p => (p.1, some p.2), i.bx, i.n⟩

theorem argSl_spec : ∀ {l : List V1} {i t : Nat} {z : Z}, look (argSl i l) t = some z → i ≤ t ∧ ∃ v, l[t - i]? = some v ∧ z = .one v
  | [], _, _, _, h => by cases h
  | v :: r, i, t, z, h => by
    simp only [argSl, look] at h
    split at h
    · rename_i hi; subst hi; cases h; exact ⟨Nat.le_refl _, v, by simp, rfl⟩
    · obtain ⟨h1, v', h2, h3⟩ := argSl_spec h
      refine ⟨by omega, v', ?_, h3⟩
      rw [show t - i = (t - (i + 1)) + 1 from by omega]
      simpa using h2

section
variable {P : Program}

theorem Runs.adm {rs : Array ResultVar} {nt pk n : Nat} {k : List Item} {s : St} {o : Out} (h : Runs P rs nt pk (Zed.adm n k) s o) : Runs P rs nt pk k s o := by
  intro E g a W h1 h2 ha b cs
  obtain ⟨a', W', todo, q1, q2⟩ := h E g a W h1 h2 ha b cs
  exact ⟨a', W', todo, q1, (adm_steps n k).trans q2⟩

/-- A function does what its code does. -/
theorem FnOK.of {f : FuncId} {fn : Func} {c : Code} (hf : P.funcs[f]? = some fn) (hb : fn.body = some c) (hname : (fn.name == "runtime.NumGoroutine") = false) {i : Inn} {o : Out} (hi : i.ok = true) (ho : o.ok i = true)
    (hr : Runs P fn.results fn.ntmps i.n [.code c] i.st o) : FnOK P f i o := by
  refine ⟨ho, fun E g W args hsz harg hpk hpin hW0 hF0 hHI hHR hWB => .inl ⟨?_, fun cs => ?_⟩⟩
  · have hne : ¬ fn.name = "runtime.NumGoroutine" := fun e => by rw [e] at hname; revert hname; decide
    simp [callFunc, hf, hne, hb]
  · simp only [Inn.ok, Bool.and_eq_true, List.all_eq_true, Nat.blt_eq] at hi
    obtain ⟨⟨i1, i2⟩, i3⟩ := hi
    let E' : Ent := { E with nt := fn.ntmps, df := [] }
    have hAI : AI P E' g i.st.den { tmps := args ++ Array.replicate (fn.ntmps - args.size) undef, defers := [] } W := {
      defers := rfl
      tsz := by show fn.ntmps ≤ _; simp; omega
      slots := fun t z hz => by
        obtain ⟨_, v, h1, rfl⟩ := argSl_spec hz
        simp only [Nat.sub_zero] at h1
        have hlt : t < args.size := by rw [hsz]; exact (List.getElem?_eq_some_iff.1 h1).1
        refine ⟨args[t], by simp only [Array.getElem?_append_left hlt]; exact Array.getElem?_eq_getElem hlt, ?_⟩
        exact harg t _ v (Array.getElem?_eq_getElem hlt) h1
      low := fun t z hz => by
        obtain ⟨_, v, h1, rfl⟩ := argSl_spec hz
        exact V1.low_of (i1 v (List.mem_of_getElem? h1))
      liveLow := fun l e hl => by
        have hl : lvOf (i.live.map fun p => (p.1, some p.2)) l = some e := hl
        rw [lvOf_map] at hl
        exact i2 _ (look_mem hl)
      boxLow := fun id cs hid => by
        obtain ⟨q1, q2⟩ := i3 _ (look_mem hid)
        exact ⟨q1, fun z hz => Z1.low_of (q2 z hz)⟩
      pkLow := fun j hj => by show j < i.n; rw [← hpk]; exact hj
      pin := fun j hj => hpin j (by rw [← hpk]; exact hj)
      b := ⟨hWB.fz, hWB.os, hWB.tape, hWB.output, hWB.size, hWB.block, hWB.keeps, hWB.fmay⟩
      h := by
        show HI P E' g (lvOf (i.live.map fun p => (p.1, some p.2))) (bc (look i.bx)) W
        rw [lvOf_map]
        exact ⟨hHI.own, hHI.ownNe, hHI.ownMay, hHI.box, hHI.boxNe, hHI.boxMay, hHI.boxOwn⟩
      r := by
        show HR P g (lvOf (i.live.map fun p => (p.1, some p.2))) (look i.bx) W
        rw [lvOf_map]
        exact hHR }
    let b : Frame := { (default : Frame) with fn := f, kind := .normal }
    have henter : Frame.enter P f args .normal = b.at { tmps := args ++ Array.replicate (fn.ntmps - args.size) undef, defers := [] } [.code c] := by
      simp [Frame.enter, Frame.at, hf, hb, b]
    obtain ⟨a', W', todo, ⟨hdef, v, hrun, g', r1, r2, rr, r3, r4⟩, hst⟩ := hr E' g _ W hpk rfl hAI b cs
    rw [← henter] at hst
    refine ⟨.returned v, W', _, ⟨v, rfl, g', r1, ⟨r2.own, r2.ownNe, r2.ownMay, r2.box, r2.boxNe, r2.boxMay, r2.boxOwn⟩, rr, ⟨r3.fz, r3.os, r3.tape, r3.output, r3.size, r3.block, r3.keeps, r3.fmay⟩, fun j hj => ?_⟩, hst, rfl, rfl, hdef, rfl, fn, hf, hrun⟩
    have h1 := r4 j (by rw [show E'.pk = i.n from hpk]; exact hj)
    have h2 := hpin j hj
    exact ⟨h1.1.trans h2.1.symm, h1.2.trans h2.2.symm⟩
end
end Zed
