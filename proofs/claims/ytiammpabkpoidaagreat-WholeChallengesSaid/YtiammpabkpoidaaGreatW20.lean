/- Texts ZedEg, ZedEh, ZedEi of our own machine for the walk of WholeChallenges, one behind the other. -/
import Derived.Test.YtiammpabkpoidaaGreatW17
import Derived.Test.YtiammpabkpoidaaGreatW18
namespace Zed
open Go
set_option linter.unusedVariables false
set_option linter.unusedSimpArgs false

/-- A value that holds no place: as data. -/
noncomputable def Z1.dat : Z1 → Option Z1
  | .d x => some (.d x)
  | .own _ T xs => some (.d (.sl T xs))
  | _ => none
noncomputable def datL : List Z1 → Option (List Z1)
  | [] => some []
  | z :: r => match z.dat, datL r with
    | some z, some r => some (z :: r)
    | _, _ => none
noncomputable def V1.dat : V1 → Option V1
  | .c z => z.dat.map .c
  | .agg cs => (datL cs).map .agg
noncomputable def datV : List V1 → Option (List V1)
  | [] => some []
  | z :: r => match z.dat, datV r with
    | some z, some r => some (z :: r)
    | _, _ => none
section
variable {P : Program} {W W' : World} {g g' : G}
theorem dat_rc {v : Value} {z z' : Z1} (h : RC W g v z) (hz : z.dat = some z') : RC W g v z' := by
  unfold Z1.dat at hz
  split at hz
  · cases hz; exact h
  · cases hz; exact h.1
  · cases hz
theorem datL_rc : ∀ {cs cs' : List Z1} {vs : List Value}, datL cs = some cs' → RCs W g vs cs → RCs W g vs cs'
  | [], cs', vs, h, hr => by cases h; exact hr
  | z :: r, cs', vs, h, hr => by
    unfold datL at h
    split at h
    · rename_i z' r' h1 h2
      cases h
      cases vs with
      | nil => exact absurd hr.1 (by simp)
      | cons v vs =>
        have ih := datL_rc (vs := vs) h2 ⟨by have := hr.1; simp at this; exact this, fun j v z hv hz => hr.2 (j + 1) v z (by simpa using hv) (by simpa using hz)⟩
        refine ⟨by have := ih.1; simp [this], fun j u y hu hy => ?_⟩
        cases j with
        | zero => simp at hu hy; subst hu; subst hy; exact dat_rc (hr.2 0 v z rfl rfl) h1
        | succ j => exact ih.2 j u y (by simpa using hu) (by simpa using hy)
    · cases h
theorem dat_rv {v : Value} {z z' : V1} (h : RV W g v z) (hz : z.dat = some z') : RV W g v z' := by
  cases z with
  | c z =>
    simp only [V1.dat, Option.map_eq_some_iff] at hz
    obtain ⟨y, hy, rfl⟩ := hz
    exact dat_rc h hy
  | agg cs =>
    simp only [V1.dat, Option.map_eq_some_iff] at hz
    obtain ⟨y, hy, rfl⟩ := hz
    obtain ⟨vs, e, hr⟩ := h
    exact ⟨vs, e, datL_rc hy hr⟩
theorem datV_spec : ∀ {vs ws : List V1}, datV vs = some ws → ws.length = vs.length ∧ ∀ (j : Nat) (z' : V1), ws[j]? = some z' → ∃ z, vs[j]? = some z ∧ z.dat = some z'
  | [], ws, h => by cases h; exact ⟨rfl, fun j z h => by simp at h⟩
  | v :: r, ws, h => by
    unfold datV at h
    split at h
    · rename_i z' r' h1 h2
      cases h
      obtain ⟨q1, q2⟩ := datV_spec h2
      refine ⟨by simp [q1], fun j z hz => ?_⟩
      cases j with
      | zero => simp at hz; subst hz; exact ⟨v, rfl, h1⟩
      | succ j => obtain ⟨y, r1, r2⟩ := q2 j z (by simpa using hz); exact ⟨y, by simpa using r1, r2⟩
    · cases h
theorem HR.none (P : Program) (g : G) (W : World) : HR P g (look []) (look []) W := fun id T xs e h1 => by cases h1
theorem HI.none (E : Ent) (g : G) (W : World) : HI P E g (look []) (bc (look [])) W where
  own l e h := nomatch (show (Option.none : Option Ow) = some e from h)
  ownNe l e l' e' h := nomatch (show (Option.none : Option Ow) = some e from h)
  ownMay l e h := nomatch (show (Option.none : Option Ow) = some e from h)
  box id cs h := nomatch (show (Option.none : Option (List Z1)) = some cs from h)
  boxNe id id' cs cs' h := nomatch (show (Option.none : Option (List Z1)) = some cs from h)
  boxMay id cs h := nomatch (show (Option.none : Option (List Z1)) = some cs from h)
  boxOwn id cs l e h := nomatch (show (Option.none : Option (List Z1)) = some cs from h)

/-- A FUNCTION OF DATA: what it does in numbers of its own, it does in any. -/
theorem FnOK.pure {f : FuncId} {vs ws : List V1} {L : Nat → Option Ow} {B : Nat → Option (List Z1)} {n m : Nat} {z : Z} (hf : FnOK P f ⟨ws, [], [], 0⟩ ⟨z, [], [], m⟩) (hw : datV vs = some ws) (hz : z.below fun _ => False) : FnW P f vs L B n z L B n := by
  intro h1 h2 h3 E g W args q1 q2 q3 q4 q5 q6 q7 q8 q9
  obtain ⟨d1, d2⟩ := datV_spec hw
  let E' : Ent := ⟨W, g.F, fun _ => False, 0, g.ρ, g.ω, 0, []⟩
  have hWB : WB E' g.F W := ⟨q9.fz, rfl, rfl, rfl, Nat.le_refl _, fun _ _ _ => rfl, Keeps.refl _ _, fun b o hf => .inl hf⟩
  have run := hf.2 E' g W args (by rw [q1, d1]) (fun j v z' hv hz' => by
    obtain ⟨y, r1, r2⟩ := d2 j z' hz'
    exact dat_rv (q2 j v y hv r1) r2) rfl (fun _ _ => ⟨rfl, rfl⟩) rfl rfl (HI.none E' g W) (HR.none P g W) hWB
  have back : ∀ v W', (∃ g', RZ W' g' v z ∧ HI P E' g' (look []) (bc (look [])) W' ∧ HR P g' (look []) (look []) W' ∧ WB E' g'.F W' ∧ ∀ j, j < 0 → g'.ρ j = g.ρ j ∧ g'.ω j = g.ω j) →
      ∃ g', RZ W' g' v z ∧ HI P E g' L (bc B) W' ∧ HR P g' L B W' ∧ WB E g'.F W' ∧ (∀ j, j < n → g'.ρ j = g.ρ j ∧ g'.ω j = g.ω j) ∧ n ≤ n ∧ z.below (· < n) ∧ LowL L n ∧ LowB B n := by
    rintro v W' ⟨g2, r1, _, _, r3, _⟩
    have hg : Goes W W' (fun _ => False) := ⟨r3.os, r3.tape, r3.output, r3.size, fun b hb1 hT => r3.block b hb1 hT⟩
    have hk : Keeps g.F g2.F W W' := r3.keeps
    have hF : ∀ b o, g2.F b o → g.F b o ∨ ((False ∨ W.heap.size ≤ b) ∧ b < W'.heap.size) := fun b o hf => (r3.fmay b o hf).imp id (fun q => ⟨q, r3.fz b o hf⟩)
    let g3 : G := ⟨g2.F, g.ρ, g.ω⟩
    refine ⟨g3, RZ.keep (g := g2) (g' := g3) (n := fun _ => False) (Keeps.refl _ _) hz (fun _ h => h.elim) (fun _ h => h.elim) r1, ?_, ?_, q9.goes hg (fun _ h => h.elim) hk hF, fun _ _ => ⟨rfl, rfl⟩, Nat.le_refl _, ?_, h2, h3⟩
    · exact q7.goes (n := fun _ => True) (g' := g3) hg hk (fun b o h => (hF b o h).imp id fun q => .inr (q.1.resolve_left id)) (fun _ _ => rfl) (fun _ _ => rfl) (fun l e hl => ⟨trivial, hl, fun _ _ h => h⟩) (fun id cs hid => ⟨trivial, hid, fun z _ => by cases z <;> simp [Z1.below], fun h => h⟩)
    · exact q8.goes (n := fun _ => True) (g' := g3) q7 hg hk (fun _ _ => rfl) (fun id T xs e a1 a2 a3 => ⟨trivial, a1, a2, fun _ _ h => h⟩)
    · cases z with
      | one v =>
        cases v with
        | c z => exact Z1.below_mono (fun _ h => h.elim) hz
        | agg cs => exact fun c hc => Z1.below_mono (fun _ h => h.elim) (hz c hc)
      | tup vs =>
        intro v hv
        have := hz v hv
        cases v with
        | c z => exact Z1.below_mono (fun _ h => h.elim) this
        | agg cs => exact fun c hc => Z1.below_mono (fun _ h => h.elim) (this c hc)
      | no => trivial
  rcases run with ⟨r1, r2⟩ | ⟨v, W', r1, r2⟩
  · exact .inl ⟨r1, r2.mono fun e W' ⟨v, e1, hh⟩ => ⟨v, e1, back v W' hh⟩⟩
  · exact .inr ⟨v, W', r1, back v W' r2⟩
end
end Zed
namespace Zed
open Go
set_option linter.unusedVariables false
set_option linter.unusedSimpArgs false

noncomputable def slotsOf (vs : List V1) : Nat → Option Z := fun j => (vs[j]?).map .one
section
variable {P : Program}
theorem FnW.via {f : FuncId} {vs ws : List V1} {L L' : Nat → Option Ow} {B B' : Nat → Option (List Z1)} {n n' : Nat} {z : Z} (hnn : n ≤ n')
    (hw : ws.length = vs.length ∧ ∀ (W : World) (g : G) (j : Nat) (v : Value) (z z' : V1), vs[j]? = some z → ws[j]? = some z' → RV W g v z → RV W g v z') (hlow : ∀ m : Nat → Prop, (∀ v ∈ vs, v.below m) → ∀ v ∈ ws, v.below m)
    (h : ∀ (E : Ent) (g : G) (a : Act) (W : World) (args : Array Value), E.pk = n → E.nt = vs.length + 1 → args.size = ws.length → (∀ (j : Nat) (v : Value), args[j]? = some v → a.tmps.getD j undef = v) → AI P E g ⟨slotsOf ws, L, B, (· < n)⟩ a W →
      Invoked P f args W fun v W' => ∃ g' sl', sl' vs.length = some z ∧ AI P E g' ⟨sl', L', B', (· < n')⟩ (a.put (some vs.length) v) W') : FnW P f vs L B n z L' B' n' := by
  intro h1 h2 h3 E g W args q1 q2 q3 q4 q5 q6 q7 q8 q9
  let E1 : Ent := { E with nt := vs.length + 1, df := [] }
  let a : Act := { tmps := args ++ #[undef], defers := [] }
  have hsz : a.tmps.size = vs.length + 1 := by show (args ++ #[undef]).size = _; simp [q1]
  have hAI : AI P E1 g ⟨slotsOf ws, L, B, (· < n)⟩ a W := {
    defers := rfl
    tsz := by rw [hsz]; exact Nat.le_refl _
    slots := fun t z hz => by
      simp only [slotsOf, Option.map_eq_some_iff] at hz
      obtain ⟨v, hv, rfl⟩ := hz
      have hlt : t < args.size := by rw [q1, ← hw.1]; exact (List.getElem?_eq_some_iff.1 hv).1
      obtain ⟨y, hy⟩ : ∃ y, vs[t]? = some y := ⟨vs[t]'(by omega), List.getElem?_eq_getElem _⟩
      exact ⟨args[t], by show (args ++ #[undef])[t]? = _; rw [Array.getElem?_append_left hlt]; exact Array.getElem?_eq_getElem hlt, hw.2 W g t _ y v hy hv (q2 t _ y (Array.getElem?_eq_getElem hlt) hy)⟩
    low := fun t z hz => by
      simp only [slotsOf, Option.map_eq_some_iff] at hz
      obtain ⟨v, hv, rfl⟩ := hz
      exact hlow _ h1 v (List.mem_of_getElem? hv)
    liveLow := h2
    boxLow := h3
    pkLow := fun j hj => by show j < n; rw [← q3]; exact hj
    pin := fun j hj => q4 j (by rw [← q3]; exact hj)
    b := ⟨q9.fz, q9.os, q9.tape, q9.output, q9.size, q9.block, q9.keeps, q9.fmay⟩
    h := ⟨q7.own, q7.ownNe, q7.ownMay, q7.box, q7.boxNe, q7.boxMay, q7.boxOwn⟩
    r := q8 }
  have run := h E1 g a W args q3 rfl (by rw [q1, hw.1]) (fun j v hv => by
    have hlt : j < args.size := (Array.getElem?_eq_some_iff.1 hv).1
    rw [Array.getD_eq_getD_getElem?]
    simp only [a, Array.getElem?_append_left hlt, hv]; rfl) hAI
  have back : ∀ v W', (∃ g' sl', sl' vs.length = some z ∧ AI P E1 g' ⟨sl', L', B', (· < n')⟩ (a.put (some vs.length) v) W') →
      ∃ g', RZ W' g' v z ∧ HI P E g' L' (bc B') W' ∧ HR P g' L' B' W' ∧ WB E g'.F W' ∧ (∀ j, j < n → g'.ρ j = g.ρ j ∧ g'.ω j = g.ω j) ∧ n ≤ n' ∧ z.below (· < n') ∧ LowL L' n' ∧ LowB B' n' := by
    rintro v W' ⟨g', sl', hs, hA⟩
    obtain ⟨u, hu, hr⟩ := hA.slots _ _ hs
    rw [tmp_put, if_pos ⟨rfl, by omega⟩] at hu
    cases hu
    refine ⟨g', hr, ⟨hA.h.own, hA.h.ownNe, hA.h.ownMay, hA.h.box, hA.h.boxNe, hA.h.boxMay, hA.h.boxOwn⟩, hA.r, ⟨hA.b.fz, hA.b.os, hA.b.tape, hA.b.output, hA.b.size, hA.b.block, hA.b.keeps, hA.b.fmay⟩, fun j hj => ?_, hnn, hA.low _ _ hs, hA.liveLow, hA.boxLow⟩
    have r1 := hA.pin j (by show j < E.pk; rw [q3]; exact hj)
    have r2 := q4 j hj
    exact ⟨r1.1.trans r2.1.symm, r1.2.trans r2.2.symm⟩
  rcases run with ⟨r1, r2⟩ | ⟨v, W', r1, r2⟩
  · exact .inl ⟨r1, r2.mono fun e W' ⟨v, e1, hh⟩ => ⟨v, e1, back v W' hh⟩⟩
  · exact .inr ⟨v, W', r1, back v W' r2⟩

/-! A call told in numbers of its own, and in the caller's. -/
noncomputable def V1.weak (z : V1) : V1 := match z.dat with
  | some z => z
  | none => z
noncomputable def argE (vs : List V1) : Operand → Option V1 := (⟨slotsOf vs, fun _ => none, fun _ => none, fun _ => True⟩ : S).ev
noncomputable def argO (n : Nat) : List Operand := (List.range n).map .tmp
theorem dat_low {m : Nat → Prop} {z z' : V1} (h : z.dat = some z') : z'.below m := by
  have one : ∀ {c c' : Z1}, c.dat = some c' → c'.below m := fun {c c'} h => by
    unfold Z1.dat at h
    split at h <;> cases h <;> trivial
  have many : ∀ {cs cs' : List Z1}, datL cs = some cs' → ∀ c ∈ cs', c.below m := fun {cs} => by
    induction cs with
    | nil => intro cs' h c hc; cases h; cases hc
    | cons x r ih =>
      intro cs' h c hc
      unfold datL at h
      split at h
      · rename_i x' r' h1 h2
        cases h
        rcases List.mem_cons.1 hc with rfl | hc
        · exact one h1
        · exact ih h2 c hc
      · cases h
  cases z with
  | c c => simp only [V1.dat, Option.map_eq_some_iff] at h; obtain ⟨y, hy, rfl⟩ := h; exact one hy
  | agg cs => simp only [V1.dat, Option.map_eq_some_iff] at h; obtain ⟨y, hy, rfl⟩ := h; exact many hy
theorem weak_low {m : Nat → Prop} {z : V1} (h : z.below m) : z.weak.below m := by
  unfold V1.weak
  split
  · rename_i h1; exact dat_low h1
  · exact h
theorem weak_rv {W : World} {g : G} {v : Value} {z : V1} (h : RV W g v z) : RV W g v z.weak := by
  unfold V1.weak
  split
  · rename_i h1; exact dat_rv h h1
  · exact h
theorem FnOK.can {f : FuncId} {inn : Inn} {out : Out} {vs : List V1} {L : Nat → Option Ow} {B : Nat → Option (List Z1)} {n : Nat} {τ : List Nat} (hf : FnOK P f inn out) (hin : callIn τ [] L B (argE (vs.map V1.weak)) (argO vs.length) [] = some inn) :
    FnW P f vs L B n (out.val.exp (sig τ n)) ((out.eff τ n).lv L) ((out.eff τ n).bv B) (n + out.n) := by
  refine FnW.via (ws := vs.map V1.weak) (by omega) ⟨by simp, fun W g j v z z' h1 h2 h3 => ?_⟩ (fun m hm v hv => ?_) ?_
  · rw [List.getElem?_map, h1] at h2
    cases h2
    exact weak_rv h3
  · obtain ⟨y, hy, rfl⟩ := List.mem_map.1 hv
    exact weak_low (hm y hy)
  · intro E g a W args hpk hnt hsz harg hA
    have hev : ∀ x, argE (vs.map V1.weak) x = (⟨slotsOf (vs.map V1.weak), L, B, (· < n)⟩ : S).ev x := fun x => by cases x <;> rfl
    have hin' : callIn τ [] L B (⟨slotsOf (vs.map V1.weak), L, B, (· < n)⟩ : S).ev (argO vs.length) [] = some inn := by
      rw [← hin]; exact congrArg (fun e => callIn τ [] L B e (argO vs.length) []) (funext fun x => (hev x).symm)
    have run := hA.call (dst := some vs.length) (base := n) (n' := (· < n + out.n)) hin' hf (fun d hd => by cases hd; rw [hnt]; simp) (fun j hj h => by have h : n + j < n := h; omega) (fun k hk => by have hk : k < n := hk; show k < n + out.n; omega) (fun j hj => by show n + j < n + out.n; omega)
    have e : ((argO vs.length).map a.eval ++ ([] : List (Nat × Nat)).map fun p => Value.pointer (some ⟨g.ρ p.1, p.2, none⟩)).toArray = args := by
      apply Array.ext
      · simp [argO]; simp at hsz; omega
      · intro j h1 h2
        have := harg j args[j] (Array.getElem?_eq_getElem h2)
        rw [← this]
        simp [argO, Act.eval]
    rw [e] at run
    have post : ∀ v W', (∃ g', AI P E g' ((⟨slotsOf (vs.map V1.weak), L, B, (· < n)⟩ : S).go (some vs.length) (out.val.exp (sig τ n)) (out.eff τ n) (· < n + out.n)) (a.put (some vs.length) v) W') → ∃ g' sl', sl' vs.length = some (out.val.exp (sig τ n)) ∧ AI P E g' ⟨sl', (out.eff τ n).lv L, (out.eff τ n).bv B, (· < n + out.n)⟩ (a.put (some vs.length) v) W' :=
      fun v W' ⟨g', h⟩ => ⟨g', _, by simp [putD, setN], h⟩
    rcases run with ⟨r1, r2⟩ | ⟨v, W', r1, r2⟩
    · exact .inl ⟨r1, r2.mono fun e W' ⟨v, e1, hh⟩ => ⟨v, e1, post v W' hh⟩⟩
    · exact .inr ⟨v, W', r1, post v W' r2⟩
end
end Zed
namespace Zed
open Go
set_option linter.unusedVariables false
set_option linter.unusedSimpArgs false

noncomputable abbrev TblT := FuncId → Inn → List Prop → Option (Out × List Prop)
noncomputable def TblOK (P : Program) (tbl : TblT) : Prop := ∀ f inn acc o acc', tbl f inn acc = some (o, acc') → AllC acc' → AllC acc ∧ FnOK P f inn o
noncomputable def forceNLS {β : Type} : List Nat → (List Nat → β) → β
  | [], c => c []
  | x :: r, c => forceN x fun x => forceNLS r fun r => c (x :: r)
noncomputable def forceNL {β : Type} (l : List Nat) : (List Nat → β) → β :=
  @List.rec Nat (fun _ => (List Nat → β) → β) (fun c => c []) (fun x _ ih c => forceN x fun x => ih fun r => c (x :: r)) l
theorem forceNL_eq {β : Type} : ∀ (l : List Nat) (c : List Nat → β), forceNL l c = c l
  | [], c => rfl
  | x :: r, c => by
    show forceN x (fun x => forceNL r fun r => c (x :: r)) = _
    rw [forceN_eq, forceNL_eq]
noncomputable def idsV (vs : List V1) : List Nat := vs.flatMap fun v => v.cells.flatMap Z1.ids
noncomputable def canE (str : Bool) (tbl : TblT) : EvT := fun f vs hp acc =>
  forceNL (closeIds hp 2000 0 (addAll hp (idsV (vs.map V1.weak)) [])) fun τ =>
  match callIn τ [] hp.L hp.B (argE (vs.map V1.weak)) (argO vs.length) [] with
  | some inn => match tbl f inn acc with
    | some (o, acc) => (⟨.e, hp⟩ : Es).goK str none .no (o.eff τ hp.nx) o.n fun s => some (o.val.exp (sig τ hp.nx), s.h, acc)
    | none => none
  | none => none
section
variable {P : Program}
theorem canE_ok {str : Bool} {tbl : TblT} (ht : TblOK P tbl) : EvOK P (canE str tbl) := by
  refine ⟨fun f vs hp acc z hp' acc' h => ?_, ?_⟩
  · unfold canE at h
    rw [forceNL_eq] at h
    split at h
    case h_2 => cases h
    split at h
    case h_2 => cases h
    obtain ⟨s', h1, h2⟩ := Es.goK_fr h
    simp only [Option.some.injEq, Prod.mk.injEq] at h1
    obtain ⟨_, rfl, _⟩ := h1
    exact h2
  intro f vs hp acc z hp' acc' h hC
  unfold canE at h
  rw [forceNL_eq] at h
  generalize closeIds hp 2000 0 (addAll hp (idsV (vs.map V1.weak)) []) = τ at h
  split at h
  case h_2 => cases h
  rename_i inn hin
  split at h
  case h_2 => cases h
  rename_i o acc1 ho
  obtain ⟨s', h1, h2, h3⟩ := Es.goK_spec h
  simp only [Option.some.injEq, Prod.mk.injEq] at h1
  obtain ⟨rfl, rfl, rfl⟩ := h1
  obtain ⟨c1, c2⟩ := ht f inn acc o acc1 ho hC
  refine ⟨c1, ?_⟩
  have := FnOK.can (vs := vs) (L := hp.L) (B := hp.B) (n := hp.nx) (τ := τ) c2 hin
  have e1 : s'.h.L = (o.eff τ hp.nx).lv hp.L := congrArg S.live h2
  have e2 : s'.h.B = (o.eff τ hp.nx).bv hp.B := congrArg S.bx h2
  rw [e1, e2, h3]
  exact this

/-! What a function leaves, in numbers that stand in order. -/
noncomputable def renOut (pk : Nat) (μ : List Nat) (z : Z) (hp : Hp) : Option Out := match z.imp μ, impD μ hp.L hp.B 0 μ with
  | some z', some (L, B) => if nodupB μ && pinB pk 0 μ then some ⟨z', L, B, μ.length⟩ else none
  | _, _ => none
theorem Hp.lv_list (hp : Hp) : lvOf hp.lv.list = hp.L := by
  funext k
  show (look hp.lv.list k).bind id = _
  rw [Tr.look_list]
  unfold Hp.L
  cases hp.lv.get k with
  | none => rfl
  | some o => rfl
theorem Hp.bx_list (hp : Hp) : look hp.bx.list = hp.B := by
  funext k
  rw [Tr.look_list]; rfl
theorem FnW.canon {f : FuncId} {vs : List V1} {L : Nat → Option Ow} {B : Nat → Option (List Z1)} {n : Nat} {z : Z} {hp : Hp} {μ : List Nat} {o : Out} (h : FnW P f vs L B n z hp.L hp.B hp.nx) (hr : renOut n μ z hp = some o) (hle : n ≤ μ.length) : FnW P f vs L B n o.val (look o.live) (look o.bx) o.n := by
  unfold renOut at hr
  split at hr
  case h_2 => cases hr
  rename_i z' L' B' hz hLB
  split at hr
  case isFalse => cases hr
  rename_i hc
  cases hr
  refine FnW.via (ws := vs) hle ⟨rfl, fun W g j v z z' h1 h2 h3 => by rw [h1] at h2; cases h2; exact h3⟩ (fun m hm => hm) ?_
  intro E g a W args hpk hnt hsz harg hA
  have run := hA.callI (nx := n) rfl (dst := some vs.length) (vs := vs) (us := args.toList) h (fun d hd => by cases hd; omega) (by simpa using hsz) (fun j v z hv hz => by
    have hs : (⟨slotsOf vs, L, B, (· < n)⟩ : S).sl j = some (.one z) := by simp [slotsOf, hz]
    obtain ⟨u, hu, hr⟩ := hA.slots _ _ hs
    have e := harg j v (by simpa using hv)
    rw [Array.getD_eq_getD_getElem?, hu] at e
    rw [← e]; exact hr) (fun v hv => by
    obtain ⟨j, hj⟩ := List.mem_iff_getElem?.1 hv
    exact hA.low j (.one v) (by simp [slotsOf, hj]))
  have post : ∀ v W', (∃ g', AI P E g' { sl := putD (slotsOf vs) (some vs.length) (some z), live := hp.L, bx := hp.B, us := (· < hp.nx) } (a.put (some vs.length) v) W') → ∃ g' sl', sl' vs.length = some z' ∧ AI P E g' ⟨sl', look L', look B', (· < μ.length)⟩ (a.put (some vs.length) v) W' := by
    rintro v W' ⟨g', hA'⟩
    let s : St := ⟨[(vs.length, z)], hp.lv.list, hp.bx.list, hp.nx⟩
    have hs : AI P E g' s.den (a.put (some vs.length) v) W' := {
      defers := hA'.defers
      tsz := hA'.tsz
      slots := fun t zt ht => by
        have ht : look [(vs.length, z)] t = some zt := ht
        simp only [look] at ht
        split at ht
        · rename_i e; cases ht; exact hA'.slots t z (by rw [← e]; simp [putD, setN])
        · cases ht
      low := fun t zt ht => by
        have ht : look [(vs.length, z)] t = some zt := ht
        simp only [look] at ht
        split at ht
        · rename_i e; cases ht; exact hA'.low t z (by rw [← e]; simp [putD, setN])
        · cases ht
      liveLow := fun l e hl => hA'.liveLow l e (by rw [← Hp.lv_list]; exact hl)
      boxLow := fun i c hi => hA'.boxLow i c (by rw [← Hp.bx_list]; exact hi)
      pkLow := hA'.pkLow
      pin := hA'.pin
      b := hA'.b
      h := by show HI P E g' (lvOf hp.lv.list) (bc (look hp.bx.list)) W'; rw [Hp.lv_list, Hp.bx_list]; exact hA'.h
      r := by show HR P g' (lvOf hp.lv.list) (look hp.bx.list) W'; rw [Hp.lv_list, Hp.bx_list]; exact hA'.r }
    have hren : renSt E.pk [vs.length] μ s = some ⟨[(vs.length, z')], L'.map fun p => (p.1, some p.2), B', μ.length⟩ := by
      unfold renSt
      have e1 : impSl μ s.sl [vs.length] = some [(vs.length, z')] := by
        simp only [impSl, s, look, if_true, Option.bind_some, hz]
      have e2 : impD μ (lvOf s.live) (look s.bx) 0 μ = some (L', B') := by
        show impD μ (lvOf hp.lv.list) (look hp.bx.list) 0 μ = _
        rw [Hp.lv_list, Hp.bx_list]; exact hLB
      rw [e1, e2, hpk]
      simp only [hc, if_true]
    have hA2 := hs.ren hren
    have e : lvOf (L'.map fun p => (p.1, some p.2)) = look L' := lvOf_map L'
    have hA3 : AI P E (g'.via μ) ⟨look [(vs.length, z')], lvOf (L'.map fun p => (p.1, some p.2)), look B', (· < μ.length)⟩ (a.put (some vs.length) v) W' := hA2
    rw [e] at hA3
    exact ⟨_, look [(vs.length, z')], by simp [look], hA3⟩
  have e : args.toList.toArray = args := by simp
  rw [e] at run
  rcases run with ⟨r1, r2⟩ | ⟨v, W', r1, r2⟩
  · exact .inl ⟨r1, r2.mono fun e W' ⟨v, e1, hh⟩ => ⟨v, e1, post v W' hh⟩⟩
  · exact .inr ⟨v, W', r1, post v W' r2⟩
noncomputable def idsZ : Z → List Nat
  | .one v => v.cells.flatMap Z1.ids
  | .tup vs => idsV vs
  | .no => []
noncomputable def outE (n : Nat) (z : Z) (hp : Hp) : Option Out :=
  forceNL (closeIds hp 5000 0 (addAll hp (idsZ z) (List.range n))) fun μ => if Nat.ble n μ.length then renOut n μ z hp else none
/-- A function, run at what it is handed. -/
noncomputable def fnT (ev : EvT) (str : Bool) (f : FuncId) (inn : Inn) (acc : List Prop) : Option (Out × List Prop) :=
  addL inn.live .e fun lv => putL str inn.bx .e fun bx => match ev f inn.args ⟨lv, bx, inn.n, []⟩ acc with
    | some (z, hp, acc) => match outE inn.n z hp with
      | some o => if inn.ok && o.ok inn then some (o, acc) else none
      | none => none
    | none => none
theorem fnT_ok {ev : EvT} (hev : EvOK P ev) {str : Bool} {f : FuncId} {inn : Inn} {acc acc' : List Prop} {o : Out} (h : fnT ev str f inn acc = some (o, acc')) (hC : AllC acc') : AllC acc ∧ FnOK P f inn o := by
  unfold fnT at h
  obtain ⟨lv, h1, q1⟩ := addL_spec h
  obtain ⟨bx, h2, q2⟩ := putL_spec h1
  split at h2
  case h_2 => cases h2
  rename_i z hp C' hr
  split at h2
  case h_2 => cases h2
  rename_i o' ho
  split at h2
  case isFalse => cases h2
  rename_i hok
  cases h2
  simp only [Bool.and_eq_true] at hok
  obtain ⟨hacc, hw⟩ := hev.2 _ _ _ _ _ _ _ hr hC
  have e1 : (Hp.mk lv bx inn.n []).L = look inn.live := by
    funext k
    simp only [Hp.L, q1]
    cases look inn.live k <;> rfl
  have e2 : (Hp.mk lv bx inn.n []).B = look inn.bx := by
    funext k
    simp only [Hp.B, q2]
    cases look inn.bx k <;> rfl
  rw [e1, e2] at hw
  unfold outE at ho
  rw [forceNL_eq] at ho
  split at ho
  case isFalse => cases ho
  rename_i hle
  exact ⟨hacc, FnW.toOK hok.1 hok.2 (FnW.canon hw ho (Nat.le_of_ble_eq_true hle))⟩
end
end Zed
