/- Texts ZedEm, ZedEn, ZedEo, ZedEq of our own machine for the walk of WholeChallenges, one behind the other. -/
import Derived.Test.YtiammpabkpoidaaGreatW23
namespace Zed
open Go
set_option linter.unusedVariables false
set_option linter.unusedSimpArgs false
noncomputable def eqV : V1 → V1 → Bool
  | .c a, .c b => eqZ1 a b
  | .agg a, .agg b => eqZs a b
  | _, _ => false
theorem eqV_spec {a b : V1} (h : eqV a b = true) : a = b := by
  cases a <;> cases b <;> simp only [eqV] at h
  · rw [eqZ1_spec h]
  · cases h
  · cases h
  · rw [eqZs_spec h]
noncomputable def eqVs : List V1 → List V1 → Bool
  | [], [] => true
  | x :: xs, y :: ys => eqV x y && eqVs xs ys
  | _, _ => false
theorem eqVs_spec : ∀ {xs ys : List V1}, eqVs xs ys = true → xs = ys
  | [], [], _ => rfl
  | x :: xs, y :: ys, h => by
    simp only [eqVs, Bool.and_eq_true] at h
    rw [eqV_spec h.1, eqVs_spec h.2]
  | [], _ :: _, h => by cases h
  | _ :: _, [], h => by cases h
noncomputable def eqLv : List (Nat × Ow) → List (Nat × Ow) → Bool
  | [], [] => true
  | x :: xs, y :: ys => (Nat.beq x.1 y.1 && (Nat.beq x.2.e y.2.e && Nat.beq x.2.k y.2.k)) && eqLv xs ys
  | _, _ => false
theorem eqLv_spec : ∀ {xs ys : List (Nat × Ow)}, eqLv xs ys = true → xs = ys
  | [], [], _ => rfl
  | (a, b) :: xs, (c, d) :: ys, h => by
    simp only [eqLv, Bool.and_eq_true, Nat.beq_eq] at h
    obtain ⟨⟨h1, h2, h3⟩, h4⟩ := h
    obtain ⟨be, bk⟩ := b
    obtain ⟨de, dk⟩ := d
    simp only at h1 h2 h3
    subst h1; subst h2; subst h3
    rw [eqLv_spec h4]
  | [], _ :: _, h => by cases h
  | _ :: _, [], h => by cases h
noncomputable def eqBxs : List (Nat × List Z1) → List (Nat × List Z1) → Bool
  | [], [] => true
  | x :: xs, y :: ys => (Nat.beq x.1 y.1 && eqZs x.2 y.2) && eqBxs xs ys
  | _, _ => false
theorem eqBxs_spec : ∀ {xs ys : List (Nat × List Z1)}, eqBxs xs ys = true → xs = ys
  | [], [], _ => rfl
  | (a, b) :: xs, (c, d) :: ys, h => by
    simp only [eqBxs, Bool.and_eq_true, Nat.beq_eq] at h
    obtain ⟨⟨h1, h2⟩, h4⟩ := h
    rw [h1, eqZs_spec h2, eqBxs_spec h4]
  | [], _ :: _, h => by cases h
  | _ :: _, [], h => by cases h
noncomputable def eqInn (a b : Inn) : Bool := (eqVs a.args b.args && eqLv a.live b.live) && (eqBxs a.bx b.bx && Nat.beq a.n b.n)
theorem eqInn_spec {a b : Inn} (h : eqInn a b = true) : a = b := by
  simp only [eqInn, Bool.and_eq_true, Nat.beq_eq] at h
  obtain ⟨⟨h1, h2⟩, h3, h4⟩ := h
  obtain ⟨a1, a2, a3, a4⟩ := a
  obtain ⟨b1, b2, b3, b4⟩ := b
  simp only at h1 h2 h3 h4
  rw [eqVs_spec h1, eqLv_spec h2, eqBxs_spec h3, h4]
/-- A table: function, what it is handed, what it leaves. -/
noncomputable def tblL : List (FuncId × Inn × Out) → TblT
  | [], _, _, _ => none
  | (g, i, o) :: r, f, inn, acc => match Nat.beq f g && eqInn inn i with
    | true => some (o, acc)
    | false => tblL r f inn acc
theorem tblL_ok {P : Program} : ∀ {l : List (FuncId × Inn × Out)}, (∀ p ∈ l, FnOK P p.1 p.2.1 p.2.2) → TblOK P (tblL l)
  | [], _ => fun f inn acc o acc' h _ => by cases h
  | (g, i, o) :: r, hl => fun f inn acc o' acc' h hC => by
    simp only [tblL] at h
    split at h
    · rename_i he
      cases h
      simp only [Bool.and_eq_true, Nat.beq_eq] at he
      obtain ⟨h1, h2⟩ := he
      have h2 := eqInn_spec h2
      subst h1; subst h2
      exact ⟨hC, hl _ List.mem_cons_self⟩
    · exact tblL_ok (fun p hp => hl p (List.mem_cons_of_mem _ hp)) f inn acc o' acc' h hC
end Zed
namespace Zed
open Go
set_option linter.unusedVariables false
set_option linter.unusedSimpArgs false

noncomputable abbrev DirT := Tr (List (Nat × Nat × Dir))
noncomputable def findDS (r o : Nat) : List (Nat × Nat × Dir) → Option Dir
  | [] => none
  | p :: l => match (Nat.beq p.1 r || Nat.beq p.1 9999) && (Nat.beq p.2.1 o || Nat.beq p.2.1 9999) with
    | true => some p.2.2
    | false => findDS r o l
noncomputable def findD (r o : Nat) (l : List (Nat × Nat × Dir)) : Option Dir :=
  @List.rec (Nat × Nat × Dir) (fun _ => Option Dir) none (fun p _ ih => match (Nat.beq p.1 r || Nat.beq p.1 9999) && (Nat.beq p.2.1 o || Nat.beq p.2.1 9999) with
    | true => some p.2.2
    | false => ih) l
noncomputable def dirIn (r o : Nat) : Option (List (Nat × Nat × Dir)) → Option Dir
  | some l => findD r o l
  | none => none
noncomputable def dirOf (t : DirT) (f r o : Nat) : Option Dir := dirIn r o (t.get f)

noncomputable def wI (n : Int) : Int := wrapE .i64 n
noncomputable def mnI (a b : Int) : Int := if b < a then b else a
noncomputable def mxI (a b : Int) : Int := if a < b then b else a
/-- As the bucket bounds a number. -/
noncomputable def clI (n : Int) : Int := mnI (mxI n 0) 4096
noncomputable def cellI (i : Inn) (b c : Nat) : Int := match look i.bx b with
  | some cs => (match cs[c]? with
    | some (.d (.int _ n)) => n
    | _ => 0)
  | none => 0
noncomputable def argI (i : Inn) (a c : Nat) : Int := match i.args[a]? with
  | some v => (match v.cells[c]? with
    | some (.d (.int _ n)) => n
    | _ => 0)
  | none => 0
noncomputable def cellR (T : K) (i : Inn) (b c : Nat) : List T.den := match look i.bx b with
  | some cs => (match cs[c]? with
    | some (.own _ T' xs) => if h : T' = T then h ▸ xs else []
    | _ => [])
  | none => []

noncomputable def rowN (i : Inn) (b c : Nat) : Nat := match look i.bx b with
  | some cs => (match cs[c]? with
    | some (.own _ _ xs) => xs.length
    | _ => 0)
  | none => 0
/-- A contract of a function where some numbers are open. -/
structure SymE (P : Program) where
  f : FuncId
  sel : Inn → Bool
  inn : Inn → Inn
  out : Inn → Out
  cond : Inn → List Prop
  ok : ∀ i, AllC (cond i) → i = inn i → FnOK P f i (out i)
theorem allC_app' {C D : List Prop} (h : AllC (C ++ D)) : AllC C ∧ AllC D := allC_append h
noncomputable def symT {P : Program} : List (SymE P) → TblT
  | [], _, _, _ => none
  | e :: l, f, i, acc => match Nat.beq f e.f && e.sel i with
    | true => some (e.out i, (i = e.inn i) :: (e.cond i ++ acc))
    | false => symT l f i acc
theorem symT_ok {P : Program} : ∀ l : List (SymE P), TblOK P (symT l)
  | [] => fun f i acc o acc' h => by cases h
  | e :: l => fun f i acc o acc' h hC => by
    simp only [symT] at h
    split at h
    · rename_i hs
      simp only [Option.some.injEq, Prod.mk.injEq] at h
      obtain ⟨rfl, rfl⟩ := h
      obtain ⟨h1, h2⟩ := hC
      obtain ⟨h3, h4⟩ := allC_app' h2
      simp only [Bool.and_eq_true, Nat.beq_eq] at hs
      refine ⟨h4, ?_⟩
      rw [hs.1]
      exact e.ok i h3 h1
    · exact symT_ok l f i acc o acc' h hC
/-- Some functions by contracts, others as told. -/
noncomputable def primS (fs : Nat → Bool) (tbl : TblT) (pr : EvT) : EvT := fun f vs hp acc => match fs f with
  | true => canE true tbl f vs hp acc
  | false => pr f vs hp acc
theorem primS_ok {P : Program} {fs : Nat → Bool} {tbl : TblT} {pr : EvT} (h1 : TblOK P tbl) (h2 : EvOK P pr) : EvOK P (primS fs tbl pr) :=
  ⟨fun f vs hp acc z hp' acc' h => by
    unfold primS at h
    split at h
    · exact (canE_ok h1).1 f vs hp acc z hp' acc' h
    · exact h2.1 f vs hp acc z hp' acc' h, fun f vs hp acc z hp' acc' h hC => by
    unfold primS at h
    split at h
    · exact (canE_ok h1).2 f vs hp acc z hp' acc' h hC
    · exact h2.2 f vs hp acc z hp' acc' h hC⟩
end Zed
namespace Zed
open Go
set_option linter.unusedVariables false
set_option linter.unusedSimpArgs false

noncomputable def slotIds (s : Es) (k : Nat) : List Nat := match s.sl.get k with
  | some z => idsZ z
  | none => []
noncomputable def closeSeq (s : Es) : List Nat → List Nat → List Nat
  | [], acc => acc
  | k :: r, acc => closeSeq s r (closeIds s.h 5000 acc.length (addAll s.h (slotIds s k) acc))
noncomputable def canQ (pk : Nat) (keep : List Nat) (s : Es) : Option Tm := forceNL (closeSeq s keep (closeIds s.h 5000 0 (List.range pk))) fun μ => renT pk keep μ s
noncomputable def onQ (pk : Nat) (keep : List Nat) : Option (List Item × Es × List Prop) → Option (List Item × Tm × List Prop)
  | some (k2, s2, acc2) => match canQ pk keep s2 with
    | some T2 => some (k2, T2, acc2)
    | none => none
  | none => none
noncomputable def runQ (cf : Cfg) (ev : EvT) (f : FuncId) (fn : Func) (pk r : Nat) (keep : List Nat) (k : List Item) (T : Tm) (acc : List Prop) : Option (List Item × Tm × List Prop) :=
  T.esK false fun s => onQ pk keep (evalTo cf ev f fn r 100000 k s acc)
theorem runQ_ok {cf : Cfg} {ev : EvT} (hmix : cf.P.follows .mixedOrders = true) (ht : TabOk cf.P cf.tab) (hev : EvOK cf.P ev) {f : FuncId} {fn : Func} {pk r : Nat} {keep : List Nat} {k k2 : List Item} {T T2 : Tm} {acc acc2 : List Prop} (h : runQ cf ev f fn pk r keep k T acc = some (k2, T2, acc2)) (hC : AllC acc2) :
    AllC acc ∧ Goes2 cf.P fn.ntmps pk k T.den k2 T2.den := by
  obtain ⟨s, h1, e⟩ := Tm.esK_spec h
  unfold onQ at h1
  split at h1
  case h_2 => cases h1
  rename_i k1 s1 acc1 hto
  split at h1
  case h_2 => cases h1
  rename_i T1 hcan
  cases h1
  obtain ⟨c0, q0⟩ := evalTo_ok (pk := pk) hmix ht hev hto hC
  unfold canQ at hcan
  rw [forceNL_eq] at hcan
  refine ⟨c0, fun E g a W hpk hnt ha b cs => ?_⟩
  rw [← e] at ha
  obtain ⟨a1, W1, g1, r1, r2⟩ := q0 E g a W hpk hnt ha b cs
  obtain ⟨g2, r3⟩ := r1.renT (by rw [hpk]; exact hcan)
  exact ⟨a1, W1, g2, r3, r2⟩

/-! What a body goes on with at a region. -/
noncomputable def seekC (r : Nat) : Nat → List Item → Option (List Item)
  | 0, _ => none
  | n + 1, k => match adm 1000 k with
    | .code (.region id ops draw) :: k' => match Nat.beq id r with
      | true => some (.code (.region id ops draw) :: k')
      | false => seekC r n k'
    | .code (.cond c x y) :: k' => match seekC r n (.code x :: k') with
      | some k2 => some k2
      | none => seekC r n (.code y :: k')
    | _ => none
noncomputable def bodyOf (fn : Func) : List Item := match fn.body with
  | some c => [.code c]
  | none => []
noncomputable def headK (fn : Func) (r : Nat) : List Item := match seekC r 60 (bodyOf fn) with
  | some k => k
  | none => []
end Zed
namespace Zed
open Go
set_option linter.unusedVariables false
set_option linter.unusedSimpArgs false

noncomputable def endO (pk : Nat) : Option (Z × Hp × List Prop) → Option (Out × List Prop)
  | some (z, hp, acc) => match outE pk z hp with
    | some o => some (o, acc)
    | none => none
  | none => none
noncomputable def slA : List V1 → Nat → List (Nat × Z)
  | [], _ => []
  | v :: r, i => (i, .one v) :: slA r (i + 1)
theorem slA_look : ∀ {vs : List V1} {i j : Nat} {z : Z}, look (slA vs i) j = some z → i ≤ j ∧ ∃ v, vs[j - i]? = some v ∧ z = .one v
  | [], i, j, z, h => by cases h
  | v :: r, i, j, z, h => by
    simp only [slA, look] at h
    split at h
    · rename_i e
      cases h
      subst e
      exact ⟨Nat.le_refl _, v, by simp, rfl⟩
    · rename_i hne
      obtain ⟨h1, v', h2, h3⟩ := slA_look h
      refine ⟨by omega, v', ?_, h3⟩
      rw [show j - i = (j - (i + 1)) + 1 from by omega]
      simpa using h2
theorem fnOK_frames {cf : Cfg} {ev : EvT} (hmix : cf.P.follows .mixedOrders = true) (ht : TabOk cf.P cf.tab) (hev : EvOK cf.P ev) {f : FuncId} {fn : Func} {c : Code} (hP : cf.P.funcs[f]? = some fn) (hname : (fn.name == "runtime.NumGoroutine") = false) (hb : fn.body = some c)
    {inn : Inn} {k : List Item} {T : Tm} {o : Out} {acc : List Prop} (hgo : Goes2 cf.P fn.ntmps inn.n (adm 1000 (bodyOf fn)) (Tm.den ⟨slA inn.args 0, inn.live, inn.bx, inn.n⟩) k T.den)
    (hend : endO inn.n (endT cf ev f fn k T []) = some (o, acc)) (hC : AllC acc) (hok : (inn.ok && o.ok inn) = true) : FnOK cf.P f inn o := by
  unfold endO at hend
  split at hend
  case h_2 => cases hend
  rename_i z hp acc1 hr
  split at hend
  case h_2 => cases hend
  rename_i o1 ho
  cases hend
  obtain ⟨_, hruns⟩ := endT_ok (pk := inn.n) hmix ht hev hr hC
  have hall := hgo.runs hruns
  rw [show bodyOf fn = [.code c] from by simp [bodyOf, hb]] at hall
  have hw : FnW cf.P f inn.args (look inn.live) (look inn.bx) inn.n z hp.L hp.B hp.nx := FnW.of_runs hP hname hb (fun j z hz => by
    obtain ⟨_, v, h2, h3⟩ := slA_look (i := 0) hz
    exact ⟨v, by simpa using h2, h3⟩) hall
  simp only [Bool.and_eq_true] at hok
  unfold outE at ho
  rw [forceNL_eq] at ho
  split at ho
  case isFalse => cases ho
  rename_i hle
  exact FnW.toOK hok.1 hok.2 (FnW.canon hw ho (Nat.le_of_ble_eq_true hle))
theorem Goes2.refl {P : Program} {nt pk : Nat} (k : List Item) (s : S) : Goes2 P nt pk k s k s := fun E g a W h1 h2 ha b cs => ⟨a, W, g, ha, Steps.refl _ _⟩
end Zed
