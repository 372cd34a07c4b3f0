/- ZED: a function that defers a closure, which adds one to a number in the variable that it is handed. -/
import Derived.Test.YtakamchmiakicaaDoorZedYa
import Derived.Defers
namespace Zed
open Go
set_option linter.unusedVariables false
set_option linter.unusedSimpArgs false

/-- From here on a call, in which nothing is deferred so far, comes to its end. -/
def Runs0 (P : Program) (rs : Array ResultVar) (nt pk : Nat) (k : List Item) (s : St) (o : Out) : Prop :=
  ∀ (E : Ent) (g : G) (a : Act) (W : World), E.pk = pk → E.nt = nt → E.df = [] → AI P E g s.den a W → ∀ (b : Frame) (cs : List Frame), ∃ a' W' todo, Ends P E rs o a' W' ∧
    Steps P (lone (b.at a k) cs W) (lone { b.at a' todo with mode := .returning } cs W')
theorem Runs.zero {P : Program} {rs : Array ResultVar} {nt pk : Nat} {k : List Item} {s : St} {o : Out} (h : Runs P rs nt pk k s o) : Runs0 P rs nt pk k s o :=
  fun E g a W h1 h2 _ ha => h E g a W h1 h2 ha
section
variable {P : Program} {tab : Tab}
theorem Runs0.step (hmix : P.follows .mixedOrders = true) (ht : TabOk P tab) {rs : Array ResultVar} {nt pk : Nat} (h : How) {k k2 : List Item} {s s2 : St} {o : Out} {C : List Prop} (hs : stepZ P tab nt pk h k s = some (k2, s2, C)) (hC : AllC C) (hr : Runs0 P rs nt pk k2 s2 o) : Runs0 P rs nt pk k s o := by
  intro E g a W hpk hnt hdf ha b cs
  obtain ⟨p, hp, e⟩ := omap hs
  obtain ⟨k2', r, C'⟩ := p
  simp only [Prod.mk.injEq] at e
  obtain ⟨rfl, rfl, rfl⟩ := e
  subst hpk; subst hnt
  obtain ⟨g1, a1, W1, h1, h2⟩ := stepP_run hmix ht hp hC ha b cs
  obtain ⟨a2, W2, todo, h3, h4⟩ := hr E g1 a1 W1 rfl rfl hdf h1 b cs
  exact ⟨a2, W2, todo, h3, h2.trans h4⟩
theorem Runs0.adm {rs : Array ResultVar} {nt pk n : Nat} {k : List Item} {s : St} {o : Out} (h : Runs0 P rs nt pk (Zed.adm n k) s o) : Runs0 P rs nt pk k s o := by
  intro E g a W h1 h2 h3 ha b cs
  obtain ⟨a', W', todo, q1, q2⟩ := h E g a W h1 h2 h3 ha b cs
  exact ⟨a', W', todo, q1, (adm_steps n k).trans q2⟩

def resF (a : Act) : ResultVar → Sem Value
  | .tmp t => pure (a.tmps.getD t undef)
  | .cell x t => do loadVar t (← asAddr (a.tmps.getD x undef))
/-- THE DEFERRED CLOSURE. -/
theorem Runs0.dfr {rs : Array ResultVar} {nt t : Nat} {cd : Code} {k' : List Item} {fc : FuncId} {s : St} {ov x0 x2 : X} {l : Int}
    (hreg : ∀ (a : Act) (W : World) (p : Value), a.defers = [] → nt ≤ a.tmps.size → a.tmps[1]? = some p →
      cd.wp P (fun e a' W' => e = .normal ∧ W' = W ∧ a'.defers = [⟨.fn (.func fc) #[p], #[]⟩] ∧ a'.tmps.size = a.tmps.size ∧ ∀ j, j ≠ t → a'.tmps[j]? = a.tmps[j]?) a W)
    (hinv : ∀ (p : Value) (W : World), (invoke (.fn (.func fc) #[p]) #[]).run P W = .ok (.enter fc #[p]) W)
    (hcl : ∀ (W : World) (b0 b1 : Nat) (u0 u2 : Value) (ty ty1 : TypeId), W.heap[b1]? = some (.cells #[.pointer (some ⟨b0, 0, none⟩)] ty1 (0, 0)) → W.heap[b0]? = some (.cells #[u0, .int .i64 l, u2] ty (0, 0)) →
      CallsD P fc #[.pointer (some ⟨b1, 0, none⟩)] .returning W fun e u' W' => e = .returned (.tuple #[]) ∧ u' = .returning ∧ W' = W.setCell ⟨b0, 1, none⟩ (.int .i64 (IntKind.wrap .i64 (l + 1))))
    (hrs : ∀ r ∈ rs.toList, ∃ q, r = .tmp q)
    (hs1 : look s.sl 1 = some (.one (.c (.ptr 1 0)))) (hst : look s.sl t = none) (hnx : s.nx = 2)
    (hr : Runs P rs nt 2 k' s ⟨.one (.c (.d ov)), [], [(0, [.d x0, .d (.int .i64 l), .d x2]), (1, [.ptr 0 0])], 2⟩) :
    Runs0 P rs nt 1 (.code cd :: k') s ⟨.one (.c (.d ov)), [], [(0, [.d x0, .d (.int .i64 (IntKind.wrap .i64 (l + 1))), .d x2])], 1⟩ := by
  intro E g a W hpk hnt hdf hA b cs
  obtain ⟨p, hp1, hp2⟩ := hA.slots 1 _ hs1
  have hp2 : p = .pointer (some ⟨g.ρ 1, 0, none⟩) := hp2
  subst hp2
  obtain ⟨e, a2, W2, ⟨he, hW2, hd2, hsz2, hsame⟩, harr⟩ := hreg a W _ (hA.defers.trans hdf) (by rw [← hnt]; exact hA.tsz) hp1 b k' cs
  subst he; subst hW2
  let E2 : Ent := { E with pk := 2, ρ0 := g.ρ, ω0 := g.ω, df := [⟨.fn (.func fc) #[.pointer (some ⟨g.ρ 1, 0, none⟩)], #[]⟩] }
  have hA2 : AI P E2 g s.den a2 W2 := {
    defers := hd2
    tsz := by rw [hsz2]; exact hA.tsz
    slots := fun t' z hz => by
      obtain ⟨v, q1, q2⟩ := hA.slots t' z hz
      have hne : t' ≠ t := by
        rintro rfl
        have hz : look s.sl t' = some z := hz
        rw [hst] at hz; cases hz
      exact ⟨v, by rw [hsame t' hne]; exact q1, q2⟩
    low := hA.low, liveLow := hA.liveLow, boxLow := hA.boxLow
    pkLow := fun j hj => by show j < s.nx; rw [hnx]; exact hj
    pin := fun j hj => ⟨rfl, rfl⟩
    b := ⟨hA.b.fz, hA.b.os, hA.b.tape, hA.b.output, hA.b.size, hA.b.block, hA.b.keeps, hA.b.fmay⟩
    h := ⟨hA.h.own, hA.h.ownNe, hA.h.ownMay, hA.h.box, hA.h.boxNe, hA.h.boxMay, hA.h.boxOwn⟩
    r := hA.r }
  obtain ⟨a3, W3, todo, ⟨hdf3, v, hrun, g3, r1, r2, rr, r3, r4⟩, hst3⟩ := hr E2 g a2 W2 rfl hnt hA2 b cs
  have hρ0 : g3.ρ 0 = g.ρ 0 := (r4 0 (show 0 < 2 by decide)).1
  have hρ1 : g3.ρ 1 = g.ρ 1 := (r4 1 (show 1 < 2 by decide)).1
  obtain ⟨p1, p2⟩ := r2.box 0 [.d x0, .d (.int .i64 l), .d x2] rfl
  obtain ⟨q1, _⟩ := r2.box 1 [.ptr 0 0] rfl
  have hmay := r2.boxMay 0 [.d x0, .d (.int .i64 l), .d x2] rfl
  rw [hρ0] at p1 p2 hmay
  rw [hρ1] at q1
  have b0 : ∃ u0 u2 ty, W3.heap[g.ρ 0]? = some (.cells #[u0, .int .i64 l, u2] ty (0, 0)) ∧ RD W3 g3.F u0 x0.raw ∧ RD W3 g3.F u2 x2.raw := by
    rcases p1 with ⟨vs, ty, h1, h2⟩ | ⟨_, _, _, _, _, h1, _⟩
    · obtain ⟨vl⟩ := vs
      have hlen : vl.length = 3 := h2.1
      match vl, hlen with
      | [u0, u1, u2], _ =>
        have e1 : RD W3 g3.F u1 (.int .i64 l) := h2.2 1 u1 (.d (.int .i64 l)) rfl rfl
        cases e1
        exact ⟨u0, u2, ty, h1, h2.2 0 u0 (.d x0) rfl rfl, h2.2 2 u2 (.d x2) rfl rfl⟩
    · cases h1
  have b1 : ∃ ty1, W3.heap[g.ρ 1]? = some (.cells #[.pointer (some ⟨g.ρ 0, 0, none⟩)] ty1 (0, 0)) := by
    rcases q1 with ⟨vs, ty, h1, h2⟩ | ⟨_, _, _, _, _, h1, _⟩
    · obtain ⟨vl⟩ := vs
      have hlen : vl.length = 1 := h2.1
      match vl, hlen with
      | [u0], _ =>
        have e1 : u0 = .pointer (some ⟨g3.ρ 0, 0, none⟩) := h2.2 0 u0 (.ptr 0 0) rfl rfl
        rw [hρ0] at e1
        subst e1
        exact ⟨ty, h1⟩
    · cases h1
  obtain ⟨u0, u2, ty, hw0, hx0, hx2⟩ := b0
  obtain ⟨ty1, hw1⟩ := b1
  have hlt0 : g.ρ 0 < W3.heap.size := (Array.getElem?_eq_some_iff.1 hw0).1
  -- the deferred call
  let fr3 : Frame := { b.at a3 todo with mode := .returning }
  have hfd : fr3.defers = [⟨.fn (.func fc) #[.pointer (some ⟨g.ρ 1, 0, none⟩)], #[]⟩] := hdf3
  have s1 := step_defer (P := P) (fr := fr3) (cs := cs) (w := W3) (f := fc) (args := #[.pointer (some ⟨g.ρ 1, 0, none⟩)]) (fun e => by cases e) hfd rfl (hinv _ W3)
  obtain ⟨e, u', w', frX, ⟨he, hu, hw'⟩, hsteps, hkX, hgo⟩ := hcl W3 (g.ρ 0) (g.ρ 1) u0 u2 ty ty1 hw1 hw0 { fr3 with defers := [] } cs rfl
  subst he; subst hu; subst hw'
  have s2 := step_going_returned (P := P) (c := { { fr3 with defers := [] } with mode := .returning }) (cs := cs) hkX hgo
  let W4 : World := W3.setCell ⟨g.ρ 0, 1, none⟩ (.int .i64 (IntKind.wrap .i64 (l + 1)))
  have hblk : ∀ k, k ≠ g.ρ 0 → W4.heap[k]? = W3.heap[k]? := fun k hk => RowKit.Below.heap_setCell W3 ⟨g.ρ 0, 1, none⟩ _ k hk
  have hsz4 : W4.heap.size = W3.heap.size := by simp [W4, World.setCell]
  have hw4 : W4.heap[g.ρ 0]? = some (.cells #[u0, .int .i64 (IntKind.wrap .i64 (l + 1)), u2] ty (0, 0)) := by
    simp [W4, World.setCell, Array.getElem?_modify, hw0]
  have hK : Keeps g3.F g3.F W3 W4 := ⟨fun _ _ q => q, fun k o q => by
    have hne : k ≠ g.ρ 0 := fun e => p2 o (e ▸ q)
    exact World.cell?_of_block (w := W3) (hblk k hne)⟩
  have hmayE : E.may (g.ρ 0) := hmay
  refine ⟨{ a3 with defers := [] }, W4, todo, ⟨hdf.symm, v, ?_, g3, ?_, ?_, ?_, ?_, ?_⟩, ?_⟩
  · -- the results stand in slots
    have key : ∀ (rl : List ResultVar) (hq : ∀ r ∈ rl, ∃ q, r = ResultVar.tmp q), ∃ us : List Value, ∀ W : World, (rl.mapM (resF a3)).run P W = .ok us W := by
      intro rl
      induction rl with
      | nil => intro _; exact ⟨[], fun W => rfl⟩
      | cons r rl ih =>
        intro hq
        obtain ⟨us, hus⟩ := ih (fun r hr => hq r (List.mem_cons_of_mem _ hr))
        obtain ⟨q, rfl⟩ := hq r List.mem_cons_self
        refine ⟨a3.tmps.getD q undef :: us, fun W => ?_⟩
        rw [List.mapM_cons]
        simp only [resF, Sem.run_bind, Sem.run_pure, Result.andThen_ok, hus W]
    obtain ⟨us, hus⟩ := key rs.toList hrs
    have hrun : (do
      let vs ← rs.mapM (resF a3)
      pure (if h : vs.size = 1 then vs[0] else .tuple vs) : Sem Value).run P W3 = .ok v W3 := hrun
    show (do
      let vs ← rs.mapM (resF a3)
      pure (if h : vs.size = 1 then vs[0] else .tuple vs) : Sem Value).run P W4 = .ok v W4
    rw [Array.mapM_eq_mapM_toList] at hrun ⊢
    simp only [Sem.run_bind, Sem.run_map, hus, Result.andThen_ok, Sem.run_pure] at hrun ⊢
    rw [Result.ok.injEq] at hrun ⊢
    exact ⟨hrun.1, rfl⟩
  · exact RD.keep hK r1
  · refine { own := fun _ _ h => (by cases h), ownNe := fun _ _ _ _ h => (by cases h), ownMay := fun _ _ h => (by cases h), box := fun id ws q => ?_, boxNe := fun id id' ws ws' q q' hne' => ?_, boxMay := fun id ws q => ?_, boxOwn := fun _ _ _ _ _ h => (by cases h) }
    · by_cases e0 : 0 = id
      · subst e0
        have q : some ([.d x0, .d (.int .i64 (IntKind.wrap .i64 (l + 1))), .d x2] : List Z1) = some ws := q
        cases q
        rw [hρ0]
        refine ⟨.inl ⟨_, ty, hw4, rfl, fun j v z h1 h2 => ?_⟩, p2⟩
        match j with
        | 0 => cases h1; cases h2; exact RD.keep hK hx0
        | 1 => cases h1; cases h2; exact RD.int _ _
        | 2 => cases h1; cases h2; exact RD.keep hK hx2
        | j + 3 => cases h2
      · have q := (bc_some q).1
        simp only [look, if_neg e0] at q; cases q
    · have f0 : ∀ {id ws}, bc (look [(0, ([.d x0, .d (.int .i64 (IntKind.wrap .i64 (l + 1))), .d x2] : List Z1))]) id = some ws → id = 0 := by
        intro id ws q
        by_cases e0 : 0 = id
        · exact e0.symm
        · have q := (bc_some q).1
          simp only [look, if_neg e0] at q; cases q
      exact absurd ((f0 q).trans (f0 q').symm) hne'
    · by_cases e0 : 0 = id
      · subst e0; rw [hρ0]; exact hmayE
      · have q := (bc_some q).1
        simp only [look, if_neg e0] at q; cases q
  · intro id T xs e1 h1
    by_cases e0 : 0 = id
    · subst e0; cases h1
    · simp only [look, if_neg e0] at h1; cases h1
  · refine ⟨fun k o q => by rw [hsz4]; exact r3.fz k o q, r3.os, r3.tape, r3.output, by rw [hsz4]; exact r3.size, fun k hk hT => ?_, r3.keeps.trans hK, r3.fmay⟩
    have hne : k ≠ g.ρ 0 := by
      rintro rfl
      rcases hmayE with q | q
      · exact hT q
      · omega
    rw [hblk k hne]
    exact r3.block k hk hT
  · intro j hj
    rw [hpk] at hj
    obtain rfl : j = 0 := by omega
    have h1 := r4 0 (show 0 < 2 by decide)
    have h2 := hA.pin 0 (by rw [hpk]; decide)
    exact ⟨h1.1.trans h2.1, h1.2.trans h2.2⟩
  · exact Steps.trans harr (Steps.trans hst3 (.head s1 (Steps.trans hsteps (.one s2))))
/-- A function does what its code does. -/
theorem FnOK.of0 {f : FuncId} {fn : Func} {c : Code} (hf : P.funcs[f]? = some fn) (hb : fn.body = some c) (hname : (fn.name == "runtime.NumGoroutine") = false) {i : Inn} {o : Out} (hi : i.ok = true) (ho : o.ok i = true)
    (hr : Runs0 P fn.results fn.ntmps i.n [.code c] i.st o) : FnOK P f i o := by
  refine ⟨ho, fun E g W args hsz harg hpk hpin hW0 hF0 hHI hHR hWB => .inl ⟨?_, fun cs => ?_⟩⟩
  · have hne : ¬ fn.name = "runtime.NumGoroutine" := fun e => by rw [e] at hname; revert hname; decide
    simp [callFunc, hf, hne, hb]
  · simp only [Inn.ok, Bool.and_eq_true, List.all_eq_true, Nat.blt_eq] at hi
    obtain ⟨⟨i1, i2⟩, i3⟩ := hi
    let E' : Ent := { E with nt := fn.ntmps, df := [] }
    have hAI : AI P E' g i.st.den { tmps := args ++ Array.replicate (fn.ntmps - args.size) undef, defers := [] } W := {
      defers := rfl
      tsz := by show fn.ntmps ≤ _; simp; omega
      slots := fun t z hz => by
        obtain ⟨_, v, h1, rfl⟩ := argSl_spec hz
        simp only [Nat.sub_zero] at h1
        have hlt : t < args.size := by rw [hsz]; exact (List.getElem?_eq_some_iff.1 h1).1
        refine ⟨args[t], by simp only [Array.getElem?_append_left hlt]; exact Array.getElem?_eq_getElem hlt, ?_⟩
        exact harg t _ v (Array.getElem?_eq_getElem hlt) h1
      low := fun t z hz => by
        obtain ⟨_, v, h1, rfl⟩ := argSl_spec hz
        exact V1.low_of (i1 v (List.mem_of_getElem? h1))
      liveLow := fun l e hl => by
        have hl : lvOf (i.live.map fun p => (p.1, some p.2)) l = some e := hl
        rw [lvOf_map] at hl
        exact i2 _ (look_mem hl)
      boxLow := fun id cs hid => by
        obtain ⟨q1, q2⟩ := i3 _ (look_mem hid)
        exact ⟨q1, fun z hz => Z1.low_of (q2 z hz)⟩
      pkLow := fun j hj => by show j < i.n; rw [← hpk]; exact hj
      pin := fun j hj => hpin j (by rw [← hpk]; exact hj)
      b := ⟨hWB.fz, hWB.os, hWB.tape, hWB.output, hWB.size, hWB.block, hWB.keeps, hWB.fmay⟩
      h := by
        show HI P E' g (lvOf (i.live.map fun p => (p.1, some p.2))) (bc (look i.bx)) W
        rw [lvOf_map]
        exact ⟨hHI.own, hHI.ownNe, hHI.ownMay, hHI.box, hHI.boxNe, hHI.boxMay, hHI.boxOwn⟩
      r := by
        show HR P g (lvOf (i.live.map fun p => (p.1, some p.2))) (look i.bx) W
        rw [lvOf_map]
        exact hHR }
    let b : Frame := { (default : Frame) with fn := f, kind := .normal }
    have henter : Frame.enter P f args .normal = b.at { tmps := args ++ Array.replicate (fn.ntmps - args.size) undef, defers := [] } [.code c] := by
      simp [Frame.enter, Frame.at, hf, hb, b]
    obtain ⟨a', W', todo, ⟨hdef, v, hrun, g', r1, r2, rr, r3, r4⟩, hst⟩ := hr E' g _ W hpk rfl rfl hAI b cs
    rw [← henter] at hst
    refine ⟨.returned v, W', _, ⟨v, rfl, g', r1, ⟨r2.own, r2.ownNe, r2.ownMay, r2.box, r2.boxNe, r2.boxMay, r2.boxOwn⟩, rr, ⟨r3.fz, r3.os, r3.tape, r3.output, r3.size, r3.block, r3.keeps, r3.fmay⟩, fun j hj => ?_⟩, hst, rfl, rfl, hdef, rfl, fn, hf, hrun⟩
    have h1 := r4 j (by rw [show E'.pk = i.n from hpk]; exact hj)
    have h2 := hpin j hj
    exact ⟨h1.1.trans h2.1.symm, h1.2.trans h2.2.symm⟩
/-- From the region r on, with nothing deferred so far. -/
def At0 (P : Program) (fn : Func) (pk r : Nat) (s : St) (o : Out) : Prop := Runs0 P fn.results fn.ntmps pk (ptOf fn r) s o
theorem At.zero {fn : Func} {pk r : Nat} {s : St} {o : Out} (h : At P fn pk r s o) : At0 P fn pk r s o := Runs.zero h
theorem At0.step {fn : Func} {pk r : Nat} (hmix : P.follows .mixedOrders = true) (ht : TabOk P tab) (h : How) (r2 : Nat) (s2 : St) (C : List Prop) {s : St} {o : Out} (hs : stepZ P tab fn.ntmps pk h (ptOf fn r) s = some (ptOf fn r2, s2, C)) (hC : AllC C) (hr : At0 P fn pk r2 s2 o) : At0 P fn pk r s o :=
  Runs0.step hmix ht h hs hC hr
theorem At0.fn {f : FuncId} {fn : Func} {c : Code} {r : Nat} (hf : P.funcs[f]? = some fn) (hb : fn.body = some c) (hname : (fn.name == "runtime.NumGoroutine") = false) {i : Inn} {o : Out} (hi : i.ok = true) (ho : o.ok i = true)
    (ha : Zed.adm 1000 [.code c] = ptOf fn r) (hr : At0 P fn i.n r i.st o) : FnOK P f i o :=
  FnOK.of0 hf hb hname hi ho (Runs0.adm (n := 1000) (ha ▸ hr))
end
end Zed
