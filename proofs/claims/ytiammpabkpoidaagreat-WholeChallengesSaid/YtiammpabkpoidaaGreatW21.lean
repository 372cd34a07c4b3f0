/- Texts ZedEj, ZedEk of our own machine for the walk of WholeChallenges, one behind the other. -/
import Derived.Defers
import Derived.Test.YtiammpabkpoidaaGreatW20
namespace Zed
open Go
set_option linter.unusedVariables false
set_option linter.unusedSimpArgs false

noncomputable def onR (k' : List Item) : Option (Es × List Prop) → Option (List Item × Es × List Prop)
  | some (s, acc) => match landE 20 s.den k' with
    | some k2 => some (k2, s, acc)
    | none => none
  | none => none
noncomputable def stepR (cf : Cfg) (ev : EvT) (f : FuncId) (fn : Func) (s : Es) (acc : List Prop) : List Item → Option (List Item × Es × List Prop)
  | .code (.region id ops draw) :: k' => match dstB fn.ntmps ops with
    | true => onR k' (regionE cf ev (cf.dir f id) ops s acc draw)
    | false => none
  | _ => none
noncomputable def headId : List Item → Option Nat
  | .code (.region id _ _) :: _ => some id
  | _ => none
noncomputable def isAt (k : List Item) (r : Nat) : Bool := match headId k with
  | some id => Nat.beq id r
  | none => false
noncomputable def toE (r : Nat) (rec : List Item → Es → List Prop → Option (List Item × Es × List Prop)) : Option (List Item × Es × List Prop) → Option (List Item × Es × List Prop)
  | some (k, s, acc) => match isAt k r with
    | true => some (k, s, acc)
    | false => rec k s acc
  | none => none
noncomputable def evalToS (cf : Cfg) (ev : EvT) (f : FuncId) (fn : Func) (r : Nat) : Nat → List Item → Es → List Prop → Option (List Item × Es × List Prop)
  | 0, _, _, _ => none
  | m + 1, k, s, acc => toE r (fun k s acc => evalToS cf ev f fn r m k s acc) (stepR cf ev f fn s acc k)
/-- On till a region (at least one step). -/
noncomputable def evalTo (cf : Cfg) (ev : EvT) (f : FuncId) (fn : Func) (r m : Nat) : List Item → Es → List Prop → Option (List Item × Es × List Prop) :=
  @Nat.rec (fun _ => List Item → Es → List Prop → Option (List Item × Es × List Prop)) (fun _ _ _ => none) (fun _ ih k s acc => toE r (fun k s acc => ih k s acc) (stepR cf ev f fn s acc k)) m

noncomputable def Goes2 (P : Program) (nt pk : Nat) (k : List Item) (s : S) (k2 : List Item) (s2 : S) : Prop :=
  ∀ (E : Ent) (g : G) (a : Act) (W : World), E.pk = pk → E.nt = nt → AI P E g s a W → ∀ (b : Frame) (cs : List Frame), ∃ a' W' g', AI P E g' s2 a' W' ∧ Steps P (lone (b.at a k) cs W) (lone (b.at a' k2) cs W')
section
variable {P : Program}
theorem Goes2.trans {nt pk : Nat} {k k2 k3 : List Item} {s s2 s3 : S} (h : Goes2 P nt pk k s k2 s2) (h' : Goes2 P nt pk k2 s2 k3 s3) : Goes2 P nt pk k s k3 s3 := by
  intro E g a W h1 h2 ha b cs
  obtain ⟨a1, W1, g1, q1, q2⟩ := h E g a W h1 h2 ha b cs
  obtain ⟨a2, W2, g2, r1, r2⟩ := h' E g1 a1 W1 h1 h2 q1 b cs
  exact ⟨a2, W2, g2, r1, q2.trans r2⟩
theorem Goes2.runs {nt pk : Nat} {k k2 : List Item} {s s2 : S} {rs : Array ResultVar} {z : Z} {L : Nat → Option Ow} {B : Nat → Option (List Z1)} {n : Nat} (h : Goes2 P nt pk k s k2 s2) (h' : RunsW P rs nt pk k2 s2 z L B n) : RunsW P rs nt pk k s z L B n := by
  intro E g a W h1 h2 ha b cs
  obtain ⟨a1, W1, g1, q1, q2⟩ := h E g a W h1 h2 ha b cs
  obtain ⟨a2, W2, todo, r1, r2⟩ := h' E g1 a1 W1 h1 h2 q1 b cs
  exact ⟨a2, W2, todo, r1, q2.trans r2⟩
theorem stepR_ok {cf : Cfg} {ev : EvT} (hmix : cf.P.follows .mixedOrders = true) (ht : TabOk cf.P cf.tab) (hev : EvOK cf.P ev) {f : FuncId} {fn : Func} {pk : Nat} {k k2 : List Item} {s s2 : Es} {acc acc2 : List Prop} (h : stepR cf ev f fn s acc k = some (k2, s2, acc2)) (hC : AllC acc2) :
    AllC acc ∧ Goes2 cf.P fn.ntmps pk k s.den k2 s2.den := by
  unfold stepR at h
  split at h
  case h_2 => cases h
  rename_i id ops draw k'
  split at h
  case h_2 => cases h
  rename_i hdst
  unfold onR at h
  split at h
  case h_2 => cases h
  rename_i s1 acc1 hreg
  split at h
  case h_2 => cases h
  rename_i k2' hland
  cases h
  obtain ⟨r0, r1⟩ := regionE_ok hmix ht hev hreg hC
  refine ⟨r0, fun E g a W hpk hnt ha b cs => ?_⟩
  obtain ⟨e, a1, W1, hq, harr⟩ := r1 E g a W id (by rw [hnt]; exact hdst) ha b k' cs
  cases e <;> simp only [Nrm] at hq
  obtain ⟨g1, h1⟩ := hq
  exact ⟨a1, W1, g1, h1, harr.trans (landE_ok (b := b) (cs := cs) h1 hland)⟩
theorem evalTo_ok {cf : Cfg} {ev : EvT} (hmix : cf.P.follows .mixedOrders = true) (ht : TabOk cf.P cf.tab) (hev : EvOK cf.P ev) {f : FuncId} {fn : Func} {pk r : Nat} : ∀ {m : Nat} {k k2 : List Item} {s s2 : Es} {acc acc2 : List Prop}, evalTo cf ev f fn r m k s acc = some (k2, s2, acc2) → AllC acc2 →
    AllC acc ∧ Goes2 cf.P fn.ntmps pk k s.den k2 s2.den
  | 0, _, _, _, _, _, _, h, _ => absurd (show none = some _ from h) (by simp)
  | m + 1, k, k2, s, s2, acc, acc2, h, hC => by
    have h : toE r (fun k s acc => evalTo cf ev f fn r m k s acc) (stepR cf ev f fn s acc k) = some (k2, s2, acc2) := h
    unfold toE at h
    split at h
    case h_2 => cases h
    rename_i k1 s1 acc1 h1
    split at h
    · cases h
      exact stepR_ok hmix ht hev h1 hC
    · obtain ⟨c1, q1⟩ := evalTo_ok (pk := pk) hmix ht hev h hC
      obtain ⟨c0, q0⟩ := stepR_ok (pk := pk) hmix ht hev h1 c1
      exact ⟨c0, q0.trans q1⟩

/-! States in numbers that stand in order. -/
structure Tm where
  sl : List (Nat × Z)
  live : List (Nat × Ow)
  bx : List (Nat × List Z1)
  nx : Nat
noncomputable def Tm.den (T : Tm) : S := ⟨look T.sl, look T.live, look T.bx, (· < T.nx)⟩
noncomputable def putSlS {β : Type} (str : Bool) : List (Nat × Z) → Tr Z → (Tr Z → Option β) → Option β
  | [], t, c => c t
  | (j, z) :: r, t, c => putSlS str r t fun t => setS str (some j) z t c
theorem putSlS_spec {β : Type} {str : Bool} : ∀ {l : List (Nat × Z)} {t : Tr Z} {c : Tr Z → Option β} {b : β}, putSlS str l t c = some b → ∃ t', c t' = some b ∧ ∀ j, t'.get j = match look l j with
    | some z => some z
    | none => t.get j
  | [], t, c, b, h => ⟨t, h, fun j => rfl⟩
  | (i, z) :: r, t, c, b, h => by
    simp only [putSlS] at h
    obtain ⟨t1, h1, q1⟩ := putSlS_spec h
    obtain ⟨t2, h2, q2⟩ := setS_spec h1
    refine ⟨t2, h2, fun j => ?_⟩
    rw [q2]
    simp only [putD, setN, look]
    by_cases hj : j = i
    · subst hj; simp
    · rw [if_neg hj, if_neg (fun e => hj e.symm), q1]
noncomputable def Tm.esK {β : Type} (str : Bool) (T : Tm) (c : Es → Option β) : Option β :=
  putSlS str T.sl .e fun sl => addL T.live .e fun lv => putL str T.bx .e fun bx => c ⟨sl, ⟨lv, bx, T.nx, []⟩⟩
theorem Tm.esK_spec {β : Type} {str : Bool} {T : Tm} {c : Es → Option β} {b : β} (h : T.esK str c = some b) : ∃ s, c s = some b ∧ s.den = T.den := by
  obtain ⟨sl, h1, q1⟩ := putSlS_spec h
  obtain ⟨lv, h2, q2⟩ := addL_spec h1
  obtain ⟨bx, h3, q3⟩ := putL_spec h2
  refine ⟨_, h3, ?_⟩
  simp only [Es.den, Tm.den, S.mk.injEq]
  refine ⟨?_, ?_, ?_, trivial⟩
  · funext j; rw [q1]; cases look T.sl j <;> rfl
  · funext k
    simp only [Hp.L, q2]
    cases look T.live k <;> rfl
  · funext k
    simp only [Hp.B, q3]
    cases look T.bx k <;> rfl
noncomputable def keptIds (s : Es) (keep : List Nat) : List Nat := keep.flatMap fun k => match s.sl.get k with
  | some z => idsZ z
  | none => []
noncomputable def renT (pk : Nat) (keep μ : List Nat) (s : Es) : Option Tm := match impSl μ s.sl.list keep, impD μ s.h.L s.h.B 0 μ with
  | some sl, some (L, B) => if nodupB μ && pinB pk 0 μ then some ⟨sl, L, B, μ.length⟩ else none
  | _, _ => none
theorem AI.renT {E : Ent} {g : G} {a : Act} {W : World} {s : Es} {keep μ : List Nat} {T : Tm} (h : AI P E g s.den a W) (hr : renT E.pk keep μ s = some T) : ∃ g', AI P E g' T.den a W := by
  unfold Zed.renT at hr
  split at hr
  case h_2 => cases hr
  rename_i sl L B hsl hLB
  split at hr
  case isFalse => cases hr
  rename_i hc
  cases hr
  let s' : St := ⟨s.sl.list, s.h.lv.list, s.h.bx.list, s.h.nx⟩
  have e : s'.den = s.den := by
    simp only [St.den, Es.den, s', S.mk.injEq]
    exact ⟨funext fun k => Tr.look_list _ _, Hp.lv_list _, Hp.bx_list _, trivial⟩
  have hren : renSt E.pk keep μ s' = some ⟨sl, L.map fun p => (p.1, some p.2), B, μ.length⟩ := by
    unfold renSt
    have e2 : impD μ (lvOf s'.live) (look s'.bx) 0 μ = some (L, B) := by
      show impD μ (lvOf s.h.lv.list) (look s.h.bx.list) 0 μ = _
      rw [Hp.lv_list, Hp.bx_list]; exact hLB
    rw [show impSl μ s'.sl keep = some sl from hsl, e2]
    simp only [hc, if_true]
  rw [← e] at h
  have := h.ren hren
  have e3 : lvOf (L.map fun p => (p.1, some p.2)) = look L := lvOf_map L
  have hA : AI P E (g.via μ) ⟨look sl, lvOf (L.map fun p => (p.1, some p.2)), look B, (· < μ.length)⟩ a W := this
  rw [e3] at hA
  exact ⟨_, hA⟩
noncomputable def canT (pk : Nat) (keep : List Nat) (s : Es) : Option Tm := forceNL (closeIds s.h 5000 0 (addAll s.h (keptIds s keep) (List.range pk))) fun μ => renT pk keep μ s
/-- From a state in order on to a region, and in order again. -/
noncomputable def runT (cf : Cfg) (ev : EvT) (f : FuncId) (fn : Func) (pk r : Nat) (keep : List Nat) (k : List Item) (T : Tm) (acc : List Prop) : Option (List Item × Tm × List Prop) :=
  T.esK false fun s => match evalTo cf ev f fn r 100000 k s acc with
    | some (k2, s2, acc2) => match canT pk keep s2 with
      | some T2 => some (k2, T2, acc2)
      | none => none
    | none => none
theorem runT_ok {cf : Cfg} {ev : EvT} (hmix : cf.P.follows .mixedOrders = true) (ht : TabOk cf.P cf.tab) (hev : EvOK cf.P ev) {f : FuncId} {fn : Func} {pk r : Nat} {keep : List Nat} {k k2 : List Item} {T T2 : Tm} {acc acc2 : List Prop} (h : runT cf ev f fn pk r keep k T acc = some (k2, T2, acc2)) (hC : AllC acc2) :
    AllC acc ∧ Goes2 cf.P fn.ntmps pk k T.den k2 T2.den := by
  obtain ⟨s, h1, e⟩ := Tm.esK_spec h
  split at h1
  case h_2 => cases h1
  rename_i k1 s1 acc1 hto
  split at h1
  case h_2 => cases h1
  rename_i T1 hcan
  cases h1
  obtain ⟨c0, q0⟩ := evalTo_ok (pk := pk) hmix ht hev hto hC
  unfold canT at hcan
  rw [forceNL_eq] at hcan
  refine ⟨c0, fun E g a W hpk hnt ha b cs => ?_⟩
  rw [← e] at ha
  obtain ⟨a1, W1, g1, r1, r2⟩ := q0 E g a W hpk hnt ha b cs
  obtain ⟨g2, r3⟩ := r1.renT (by rw [hpk]; exact hcan)
  exact ⟨a1, W1, g2, r3, r2⟩
/-- From a state in order to the end. -/
noncomputable def endT (cf : Cfg) (ev : EvT) (f : FuncId) (fn : Func) (k : List Item) (T : Tm) (acc : List Prop) : Option (Z × Hp × List Prop) :=
  T.esK false fun s => evalR cf ev f fn 100000 k s acc
theorem endT_ok {cf : Cfg} {ev : EvT} (hmix : cf.P.follows .mixedOrders = true) (ht : TabOk cf.P cf.tab) (hev : EvOK cf.P ev) {f : FuncId} {fn : Func} {pk : Nat} {k : List Item} {T : Tm} {acc acc2 : List Prop} {z : Z} {hp : Hp} (h : endT cf ev f fn k T acc = some (z, hp, acc2)) (hC : AllC acc2) :
    AllC acc ∧ RunsW cf.P fn.results fn.ntmps pk k T.den z hp.L hp.B hp.nx := by
  obtain ⟨s, h1, e⟩ := Tm.esK_spec h
  obtain ⟨c0, q0⟩ := evalR_ok (pk := pk) hmix ht hev h1 hC
  rw [e] at q0
  exact ⟨c0, q0⟩
end
end Zed
namespace Zed
open Go
set_option linter.unusedVariables false
set_option linter.unusedSimpArgs false
section
variable {P : Program}
/-- A body runs: as a call of any kind. -/
theorem body_runs {f : FuncId} {fn : Func} {c : Code} {vs : List V1} {L L' : Nat → Option Ow} {B B' : Nat → Option (List Z1)} {n n' : Nat} {z : Z} {sl : Nat → Option Z} (hP : P.funcs[f]? = some fn) (hb : fn.body = some c) (hsl : ∀ j z, sl j = some z → ∃ v, vs[j]? = some v ∧ z = .one v)
    (hrun : RunsW P fn.results fn.ntmps n (adm 1000 [.code c]) ⟨sl, L, B, (· < n)⟩ z L' B' n') (κ : CallKind)
    (v1 : ∀ v ∈ vs, v.below (· < n)) (v2 : LowL L n) (v3 : LowB B n) {E : Ent} {g : G} {W : World} {args : Array Value} (hsz : args.size = vs.length) (harg : ∀ (j : Nat) (v : Value) (z : V1), args[j]? = some v → vs[j]? = some z → RV W g v z)
    (hpk : E.pk = n) (hpin : ∀ j, j < n → g.ρ j = E.ρ0 j ∧ g.ω j = E.ω0 j) (hHI : HI P E g L (bc B) W) (hHR : HR P g L B W) (hWB : WB E g.F W) (cs : List Frame) :
    ∃ v W' fr, (∃ g', RZ W' g' v z ∧ HI P E g' L' (bc B') W' ∧ HR P g' L' B' W' ∧ WB E g'.F W' ∧ (∀ j, j < n → g'.ρ j = g.ρ j ∧ g'.ω j = g.ω j) ∧ n ≤ n' ∧ z.below (· < n') ∧ LowL L' n' ∧ LowB B' n') ∧
      Steps P (lone (Frame.enter P f args κ) cs W) (lone fr cs W') ∧ fr.fn = f ∧ fr.mode = .returning ∧ fr.defers = [] ∧ fr.kind = κ ∧ (Go.results fn fr.tmps).run P W' = .ok v W' := by
  let E' : Ent := { E with nt := fn.ntmps, df := [] }
  have hAI : AI P E' g ⟨sl, L, B, (· < n)⟩ { tmps := args ++ Array.replicate (fn.ntmps - args.size) undef, defers := [] } W := {
    defers := rfl
    tsz := by show fn.ntmps ≤ _; simp; omega
    slots := fun t z hz => by
      obtain ⟨v, h1, rfl⟩ := hsl t z hz
      have hlt : t < args.size := by rw [hsz]; exact (List.getElem?_eq_some_iff.1 h1).1
      refine ⟨args[t], by simp only [Array.getElem?_append_left hlt]; exact Array.getElem?_eq_getElem hlt, ?_⟩
      exact harg t _ v (Array.getElem?_eq_getElem hlt) h1
    low := fun t z hz => by
      obtain ⟨v, h1, rfl⟩ := hsl t z hz
      exact v1 v (List.mem_of_getElem? h1)
    liveLow := v2
    boxLow := v3
    pkLow := fun j hj => by show j < n; rw [← hpk]; exact hj
    pin := fun j hj => hpin j (by rw [← hpk]; exact hj)
    b := ⟨hWB.fz, hWB.os, hWB.tape, hWB.output, hWB.size, hWB.block, hWB.keeps, hWB.fmay⟩
    h := ⟨hHI.own, hHI.ownNe, hHI.ownMay, hHI.box, hHI.boxNe, hHI.boxMay, hHI.boxOwn⟩
    r := hHR }
  let b : Frame := { (default : Frame) with fn := f, kind := κ }
  have henter : Frame.enter P f args κ = b.at { tmps := args ++ Array.replicate (fn.ntmps - args.size) undef, defers := [] } [.code c] := by
    simp [Frame.enter, Frame.at, hP, hb, b]
  obtain ⟨a', W', todo, ⟨hdef, v, hrun, g', r1, r2, rr, r3, r4, r5, r6, r7, r8⟩, hst⟩ := hrun E' g _ W hpk rfl hAI b cs
  have hst := (adm_steps (P := P) (b := b) (a := { tmps := args ++ Array.replicate (fn.ntmps - args.size) undef, defers := [] }) (cs := cs) (W := W) 1000 [.code c]).trans hst
  rw [← henter] at hst
  refine ⟨v, W', _, ⟨g', r1, ⟨r2.own, r2.ownNe, r2.ownMay, r2.box, r2.boxNe, r2.boxMay, r2.boxOwn⟩, rr, ⟨r3.fz, r3.os, r3.tape, r3.output, r3.size, r3.block, r3.keeps, r3.fmay⟩, fun j hj => ?_, by rw [← hpk]; exact r5, r6, r7, r8⟩, hst, rfl, rfl, hdef, rfl, hrun⟩
  have h1 := r4 j (by rw [show E'.pk = n from hpk]; exact hj)
  have h2 := hpin j hj
  exact ⟨h1.1.trans h2.1.symm, h1.2.trans h2.2.symm⟩
theorem FnW.of_runs {f : FuncId} {fn : Func} {c : Code} {vs : List V1} {L L' : Nat → Option Ow} {B B' : Nat → Option (List Z1)} {n n' : Nat} {z : Z} {sl : Nat → Option Z} (hP : P.funcs[f]? = some fn) (hname : (fn.name == "runtime.NumGoroutine") = false) (hb : fn.body = some c) (hsl : ∀ j z, sl j = some z → ∃ v, vs[j]? = some v ∧ z = .one v)
    (hrun : RunsW P fn.results fn.ntmps n (adm 1000 [.code c]) ⟨sl, L, B, (· < n)⟩ z L' B' n') : FnW P f vs L B n z L' B' n' := by
  intro v1 v2 v3 E g W args hsz harg hpk hpin hW0 hF0 hHI hHR hWB
  refine .inl ⟨?_, fun cs => ?_⟩
  · have hne : ¬ fn.name = "runtime.NumGoroutine" := fun e => by rw [e] at hname; revert hname; decide
    simp [callFunc, hP, hne, hb]
  · obtain ⟨v, W', fr, h1, h2, h3, h4, h5, h6, h7⟩ := body_runs hP hb hsl hrun .normal v1 v2 v3 hsz harg hpk hpin hHI hHR hWB cs
    exact ⟨.returned v, W', fr, ⟨v, rfl, h1⟩, h2, h3, h4, h5, h6, fn, by rw [h3]; exact hP, h7⟩
theorem seqE_ok2 {cf : Cfg} {ev : EvT} (ht : TabOk cf.P cf.tab) (hev : EvOK cf.P ev) {ops : Array Oper} {dir : Nat → Option Dir} : ∀ {l : List Oper} {i : Nat} {s s' : Es} {acc acc' : List Prop}, seqE cf ev dir ops i l s acc = some (s', acc') → (∀ k, k < l.length → ops[i + k]? = l[k]?) → AllC acc' →
    AllC acc ∧ ∀ (E : Ent) (g : G) (a : Act) (W : World) (Q : Exit → Act → World → Prop) (rest : List Nat), DstOk ops E.nt → (∀ a W g, AI cf.P E g s'.den a W → wpOps cf.P ops Q rest a W) → AI cf.P E g s.den a W → wpOps cf.P ops Q (List.range' i l.length ++ rest) a W
  | [], i, s, s', acc, acc', h, _, hC => by
    have h : some (s, acc) = some (s', acc') := h
    simp only [Option.some.injEq, Prod.mk.injEq] at h
    obtain ⟨rfl, rfl⟩ := h
    exact ⟨hC, fun E g a W Q rest hd hK ha => hK a W g ha⟩
  | o :: r, i, s, s', acc, acc', h, hl, hC => by
    have h0 : ops[i]? = some o := by have := hl 0 (by simp); simpa using this
    have hl' : ∀ k, k < r.length → ops[i + 1 + k]? = r[k]? := fun k hk => by have := hl (k + 1) (by simpa using hk); rw [show i + 1 + k = i + (k + 1) from by omega]; simpa using this
    obtain ⟨s1, acc1, h1, q1⟩ := stepE_ok ht hev h0 h
    obtain ⟨c1, r1⟩ := seqE_ok2 ht hev h1 hl' hC
    obtain ⟨c2, r2⟩ := q1 c1
    refine ⟨c2, fun E g a W Q rest hd hK ha => ?_⟩
    rw [List.length_cons, List.range'_succ, List.cons_append, wpOps_cons]
    exact wpOp_mono (fun a' W' ⟨g', h'⟩ => r1 E g' a' W' Q rest hd hK h') (r2 E g a W Q hd ha)
noncomputable def allTmp : List ResultVar → Bool
  | [] => true
  | .tmp _ :: r => allTmp r
  | _ => false
noncomputable def resF (a : Act) : ResultVar → Sem Value
  | .tmp t => pure (a.tmps.getD t undef)
  | .cell x t => do loadVar t (← asAddr (a.tmps.getD x undef))
theorem resF_any {a : Act} : ∀ {rl : List ResultVar}, allTmp rl = true → ∃ us : List Value, ∀ W : World, (rl.mapM (resF a)).run P W = .ok us W
  | [], _ => ⟨[], fun W => rfl⟩
  | .tmp q :: r, h => by
    obtain ⟨us, hus⟩ := resF_any (a := a) (rl := r) h
    refine ⟨a.tmps.getD q undef :: us, fun W => ?_⟩
    rw [List.mapM_cons]
    simp only [resF, Sem.run_bind, Sem.run_pure, Result.andThen_ok, hus W]
  | .cell _ _ :: r, h => by cases h
theorem resF_same {a : Act} {rs : Array ResultVar} (h : allTmp rs.toList = true) {W W' : World} {v : Value} (hr : (do
      let vs ← rs.mapM (resF a)
      pure (if h : vs.size = 1 then vs[0] else .tuple vs) : Sem Value).run P W = .ok v W) : (do
      let vs ← rs.mapM (resF a)
      pure (if h : vs.size = 1 then vs[0] else .tuple vs) : Sem Value).run P W' = .ok v W' := by
  obtain ⟨us, hus⟩ := resF_any (P := P) (a := a) h
  rw [Array.mapM_eq_mapM_toList] at hr ⊢
  simp only [Sem.run_bind, Sem.run_map, hus, Result.andThen_ok, Sem.run_pure] at hr ⊢
  rw [Result.ok.injEq] at hr ⊢
  exact ⟨hr.1, rfl⟩
/-- A DEFERRED CALL. -/
theorem RunsW.dfr {rs : Array ResultVar} {nt pk id n2 n3 n4 : Nat} {ops : Array Oper} {d : Oper} {fv : Operand} {args : Array Operand} {ats : Array TypeId} {k' : List Item} {s s2 : S} {z z4 : Z} {L3 L4 : Nat → Option Ow} {B3 B4 : Nat → Option (List Z1)} {m : Nat}
    (hops : ops.size = m + 1) (hd : ops[m]? = some d) (hop : d.op = .defer ⟨.value fv, args, ats⟩) (hg : d.guard = none) (hdst : d.dst = none) (hnt : dstB nt ops = true)
    (hpre : ∀ (E : Ent) (g : G) (a : Act) (W : World) (Q : Exit → Act → World → Prop) (rest : List Nat), DstOk ops E.nt → (∀ a W g, AI P E g s2 a W → wpOps P ops Q rest a W) → AI P E g s a W → wpOps P ops Q (List.range' 0 m ++ rest) a W)
    (hus : s2.us = (· < n2)) {gf : FuncId} {ps : List (Nat × Nat)} (hfv : s2.ev fv = some (.c (.fn gf []))) (hps : ptrsZ s2.ev args.toList = some ps)
    (hrest : RunsW P rs nt n2 k' s2 z L3 B3 n3) (hall : allTmp rs.toList = true)
    {fn : Func} {c : Code} {sl : Nat → Option Z} (hP : P.funcs[gf]? = some fn) (hname : (fn.name == "runtime.NumGoroutine") = false) (hb : fn.body = some c) (hsl : ∀ j z, sl j = some z → ∃ v, (ps.map ptrV)[j]? = some v ∧ z = .one v)
    (hcall : RunsW P fn.results fn.ntmps n3 (adm 1000 [.code c]) ⟨sl, L3, B3, (· < n3)⟩ z4 L4 B4 n4) :
    RunsW P rs nt pk (.code (.region id ops false) :: k') s z L4 B4 n4 := by
  intro E g a W hpk hEnt hA b cs
  have hdok : DstOk ops E.nt := by rw [hEnt]; exact dst_of hnt
  have hreg : (Code.region id ops false).wp P (Nrm fun a' W' => ∃ g1, ∃ E2 : Ent, E2 = { E with pk := n2, ρ0 := g1.ρ, ω0 := g1.ω, df := ⟨.fn (.func gf) #[], (ps.map fun p => Value.pointer (some ⟨g1.ρ p.1, p.2, none⟩)).toArray⟩ :: E.df } ∧ AI P E2 g1 s2 a' W' ∧ (∀ j, j < E.pk → g1.ρ j = E.ρ0 j ∧ g1.ω j = E.ω0 j) ∧ (∀ j, j < E.pk → j < n2) ∧ ∀ p ∈ ps, p.1 < n2) a W := by
    refine wp_region ?_
    rw [List.range_eq_range', hops, show List.range' 0 (m + 1) = List.range' 0 m ++ [m] from by rw [List.range'_concat]; simp]
    refine hpre E g a W _ [m] hdok (fun a1 W1 g1 h1 => ?_) hA
    obtain ⟨q1, q2⟩ := ptrsZ_rd h1 hps
    have hf : a1.eval fv = .func (.func gf) #[] #[] := (h1.ev hfv).1
    have ha : args.map a1.eval = (ps.map fun p => Value.pointer (some ⟨g1.ρ p.1, p.2, none⟩)).toArray := by rw [← q1]; apply Array.ext'; simp
    rw [wpOps_cons]
    unfold wpOp
    rw [hd]
    simp only
    have hw : Region.wanted d (yielded ops a1.tmps) = true := by simp [Region.wanted, hg]
    rw [if_pos hw]
    refine .inl ?_
    have hexec : (execOp a1.eval d).run P W1 = .ok (.defer ⟨.fn (.func gf) #[], (ps.map fun p => Value.pointer (some ⟨g1.ρ p.1, p.2, none⟩)).toArray⟩) W1 := by
      simp [execOp, hop, resolve, Deferred.ofValue, hf, ha]
    unfold Oper.wp
    rw [hexec, Oper.upon_defer, hdst]
    refine ⟨g1, _, rfl, ?_, h1.pin, fun j hj => by have := h1.pkLow j hj; rw [hus] at this; exact this, fun p hp => ?_⟩
    · exact { defers := by show _ :: a1.defers = _; rw [h1.defers], tsz := h1.tsz, slots := h1.slots, low := h1.low, liveLow := h1.liveLow, boxLow := h1.boxLow, pkLow := fun j hj => by rw [hus]; exact hj, pin := fun j hj => ⟨rfl, rfl⟩, b := ⟨h1.b.fz, h1.b.os, h1.b.tape, h1.b.output, h1.b.size, h1.b.block, h1.b.keeps, h1.b.fmay⟩, h := ⟨h1.h.own, h1.h.ownNe, h1.h.ownMay, h1.h.box, h1.h.boxNe, h1.h.boxMay, h1.h.boxOwn⟩, r := h1.r }
    · have := q2 p hp; rw [hus] at this; exact this
  obtain ⟨e, a1, W1, hq, harr⟩ := hreg b k' cs
  cases e <;> simp only [Nrm] at hq
  obtain ⟨g1, E2, hE2, h1, hpin, hpkn, hpsl⟩ := hq
  obtain ⟨a3, W3, todo, ⟨hdf3, v, hrun, g3, r1, r2, rr, r3, r4, r5, r6, r7, r8⟩, hst3⟩ := hrest E2 g1 a1 W1 (by rw [hE2]) (by rw [hE2]; exact hEnt) h1 b cs
  subst hE2
  have hρ3 : ∀ j, j < n2 → g3.ρ j = g1.ρ j ∧ g3.ω j = g1.ω j := r4
  -- the deferred call
  let T : Nat → Prop := fun b => (∃ k cs, bc B3 k = some cs ∧ g3.ρ k = b) ∨ (∃ k e, L3 k = some e ∧ (g3.ω k).ownBlock = some b)
  let E' : Ent := ⟨W3, g3.F, T, n3, g3.ρ, g3.ω, 0, []⟩
  have tMay : ∀ b, T b → E.may b := by
    rintro b (⟨k, cs, h1, rfl⟩ | ⟨k, e, h1, h2⟩)
    · exact r2.boxMay k cs h1
    · exact r2.ownMay k e h1 b h2
  have eMay : ∀ b, E'.may b → E.may b := by
    rintro b (hT | hge)
    · exact tMay b hT
    · exact .inr (Nat.le_trans r3.size hge)
  have hHI : HI P E' g3 L3 (bc B3) W3 :=
    ⟨r2.own, r2.ownNe, fun l e hl b hb1 => .inl (.inr ⟨l, e, hl, hb1⟩), r2.box, r2.boxNe, fun id cs hid => .inl (.inl ⟨id, cs, hid, rfl⟩), r2.boxOwn⟩
  have hWB : WB E' g3.F W3 := ⟨r3.fz, rfl, rfl, rfl, Nat.le_refl _, fun _ _ _ => rfl, Keeps.refl _ _, fun b o hf => .inl hf⟩
  have hargs : (ps.map fun p => Value.pointer (some ⟨g1.ρ p.1, p.2, none⟩)) = (ps.map fun p => Value.pointer (some ⟨g3.ρ p.1, p.2, none⟩)) := List.map_congr_left fun p hp => by rw [(hρ3 p.1 (hpsl p hp)).1]
  let av : Array Value := (ps.map fun p => Value.pointer (some ⟨g1.ρ p.1, p.2, none⟩)).toArray
  let fr3 : Frame := { b.at a3 todo with mode := .returning }
  have hfd : fr3.defers = ⟨.fn (.func gf) #[], av⟩ :: E.df := hdf3
  have hne : ¬ fn.name = "runtime.NumGoroutine" := fun e => by rw [e] at hname; revert hname; decide
  have hinv : (invoke (.fn (.func gf) #[]) av).run P W3 = .ok (.enter gf av) W3 := by
    simp [invoke, callFunc, hP, hne, hb]
  have s1 := step_defer (P := P) (fr := fr3) (cs := cs) (w := W3) (f := gf) (args := av) (fun e => by cases e) hfd rfl hinv
  obtain ⟨v4, W4, fr4, ⟨g4, u1, u2, uu, u3, u4, u5, u6, u7, u8⟩, hst4, hf4, hm4, hd4, hk4, hr4⟩ := body_runs (E := E') (g := g3) (W := W3) (args := av) hP hb hsl hcall .deferred (fun v hv => by
      obtain ⟨p, hp, rfl⟩ := List.mem_map.1 hv
      show p.1 < n3
      have := hpsl p hp; have : n2 ≤ n3 := r5; omega) r7 r8 (by simp [av]) (fun j v z hv hz => by
      have hv : (ps.map fun p => Value.pointer (some ⟨g1.ρ p.1, p.2, none⟩))[j]? = some v := by simpa [av] using hv
      rw [hargs, List.getElem?_map] at hv
      rw [List.getElem?_map] at hz
      obtain ⟨p, hp, rfl⟩ := omap hz
      rw [hp] at hv
      cases hv
      rfl) rfl (fun _ _ => ⟨rfl, rfl⟩) hHI rr hWB ({ fr3 with defers := E.df } :: cs)
  have hgo : fr4.going P W4 (.returned v4) := ⟨hm4, hd4, fn, by rw [hf4]; exact hP, hr4⟩
  have s2' := step_going_returned (P := P) (c := { fr3 with defers := E.df }) (cs := cs) hk4 hgo
  have hg' : Goes W3 W4 T := ⟨u3.os, u3.tape, u3.output, u3.size, fun b hb1 hT => u3.block b hb1 hT⟩
  have hF : ∀ b o, g4.F b o → g3.F b o ∨ ((T b ∨ W3.heap.size ≤ b) ∧ b < W4.heap.size) := fun b o hf => (u3.fmay b o hf).imp _root_.id (fun q => ⟨q, u3.fz b o hf⟩)
  have hk : Keeps g3.F g4.F W3 W4 := u3.keeps
  have hWBE : WB E g3.F W3 := ⟨r3.fz, r3.os, r3.tape, r3.output, r3.size, r3.block, r3.keeps, r3.fmay⟩
  refine ⟨{ a3 with defers := E.df }, W4, todo, ⟨rfl, v, ?_, g4, ?_, ?_, uu, hWBE.goes hg' tMay hk hF, ?_, ?_, ?_, u7, u8⟩, ?_⟩
  · exact resF_same (a := a3) hall hrun
  · exact RZ.keep hk r6 (fun i hi => (u4 i hi).1) (fun i hi => (u4 i hi).2) r1
  · exact ⟨u2.own, u2.ownNe, fun l e hl b hb1 => eMay b (u2.ownMay l e hl b hb1), u2.box, u2.boxNe, fun id cs hid => eMay _ (u2.boxMay id cs hid), u2.boxOwn⟩
  · intro j hj
    have q2 := hpkn j hj
    have : n2 ≤ n3 := r5
    have q1 := hpin j hj
    have q3 := hρ3 j q2
    have q4 := u4 j (by omega)
    exact ⟨q4.1.trans (q3.1.trans q1.1), q4.2.trans (q3.2.trans q1.2)⟩
  · have : n2 ≤ n3 := r5
    rcases Nat.eq_zero_or_pos E.pk with q | q
    · omega
    · have := hpkn (E.pk - 1) (by omega); omega
  · exact Z.below_mono (fun k hk => by have hk : k < n3 := hk; show k < n4; omega) r6
  · exact harr.trans (hst3.trans ((Steps.one s1).trans (hst4.trans (Steps.one s2'))))
end
end Zed
