/- Texts ZedKe of our own machine for the walk of WholeChallenges, one behind the other. -/
import Derived.MapKept
import Derived.Test.YtiammpabkpoidaaGreatW05
namespace Zed
open Go
set_option linter.unusedVariables false
set_option linter.unusedSimpArgs false

noncomputable def getM (l : List (Int × Int)) (i : Int) : Int := match l.findIdx? (fun p => p.1 == i) with
  | some j => (l.getD j (0, 0)).2
  | none => 0
noncomputable def setM (l : List (Int × Int)) (i y : Int) : List (Int × Int) := match l.findIdx? (fun p => p.1 == i) with
  | some j => l.set j (i, y)
  | none => l ++ [(i, y)]
noncomputable def delM (l : List (Int × Int)) (i : Int) : List (Int × Int) := match l.findIdx? (fun p => p.1 == i) with
  | some j => l.eraseIdx j
  | none => l

noncomputable def mapOf (tab : Tab) (bx : Nat → Option (List Z1)) (t : TypeId) (m : Nat) : Option (IntKind × IntKind × List (Int × Int)) :=
  match (tlook tab t).map TyI.ty, bx m with
  | some (.map kt et), some [.mp k k' l] => match (tlook tab kt).map TyI.ty, tlook tab et with
    | some (.int k0), some ei => match ei.ty, ei.zero with
      | .int k1, [.int k2 0] => if k0 = k ∧ k1 = k' ∧ k2 = k' then some (k, k', l) else none
      | _, _ => none
    | _, _ => none
  | _, _ => none
noncomputable def intKZ : V1 → Option (IntKind × Int)
  | .c (.d (.int k n)) => some (k, n)
  | _ => none

noncomputable def mapOp (tab : Tab) (base : Nat) (bx : Nat → Option (List Z1)) (ev : Operand → Option V1) (op : Op) : Option (Option Stp) :=
  match op with
  | .makeMap t none => some (match (tlook tab t).map TyI.ty with
    | some (.map kt et) => match (tlook tab kt).map TyI.ty, (tlook tab et).map TyI.ty with
      | some (.int k), some (.int k') => some ⟨.one (.c (.mref base)), ⟨[], [], [(base, [.mp k k' []])]⟩, [], none⟩
      | _, _ => none
    | _ => none)
  | .lookup t x ix false => match ev x with
    | some (.c (.mref m)) => some (match mapOf tab bx t m, (ev ix).bind intKZ with
      | some (k, k', l), some (k2, i) => if k2 = k then some ⟨.one (.c (.d (.int k' (getM l i)))), Eff.no, [m], none⟩ else none
      | _, _ => none)
    | _ => none
  | .mapUpdate t x ix y => match ev x with
    | some (.c (.mref m)) => some (match mapOf tab bx t m, (ev ix).bind intKZ, (ev y).bind intKZ with
      | some (k, k', l), some (k2, i), some (k3, v) => if k2 = k ∧ k3 = k' then some ⟨.no, ⟨[], [], [(m, [.mp k k' (setM l i v)])]⟩, [m], none⟩ else none
      | _, _, _ => none)
    | _ => none
  | .call ⟨.builtin .delete, args, ats⟩ => match args.toList, ats.toList with
    | [x, ix], [t, t'] => match ev x with
      | some (.c (.mref m)) => some (match mapOf tab bx t m, (ev ix).bind intKZ with
        | some (k, k', l), some (k2, i) => if k2 = k then some ⟨.tup [], ⟨[], [], [(m, [.mp k k' (delM l i)])]⟩, [m], none⟩ else none
        | _, _ => none)
      | _ => none
    | _, _ => none
  | .call ⟨.builtin .len, args, ats⟩ => match args.toList, ats.toList with
    | [x], [t] => match ev x with
      | some (.c (.mref m)) => some (match mapOf tab bx t m with
        | some (k, k', l) => some ⟨.one (.c (.d (.int .i64 l.length))), Eff.no, [m], none⟩
        | none => none)
      | _ => none
    | _, _ => none
  | _ => none

section
variable {P : Program} {tab : Tab} {E : Ent} {g : G} {s : S} {a : Act} {W W' : World} {F : Nat → Nat → Prop}

theorem map_erase {α β : Type} (f : α → β) : ∀ (l : List α) (j : Nat), (l.eraseIdx j).map f = (l.map f).eraseIdx j
  | [], _ => rfl
  | x :: l, 0 => rfl
  | x :: l, j + 1 => by simp only [List.eraseIdx_cons_succ, List.map_cons, map_erase f l j]
noncomputable def entryV (e : MapEntry) : Value × Value := (e.key, e.val)
theorem findNow_spec (k k' : IntKind) (i : Int) : ∀ (es : List MapEntry) (l : List (Int × Int)) (n : Nat), es.map (fun e => (e.key, e.val)) = l.map (fun p => (Value.int k p.1, Value.int k' p.2)) →
    Instr.findNow (.int k) (.int k i) es n = some (match l.findIdx? (fun p => p.1 == i) with
      | some j => some (n + j, .int k' (l.getD j (0, 0)).2)
      | none => none)
  | [], l, n, h => by
    cases l with
    | nil => rfl
    | cons p l => simp at h
  | e :: es, [], n, h => by simp at h
  | e :: es, p :: l, n, h => by
    simp only [List.map_cons, List.cons.injEq, Prod.mk.injEq] at h
    obtain ⟨⟨h1, h2⟩, h3⟩ := h
    have ih := findNow_spec k k' i es l (n + 1) h3
    simp only [Instr.findNow, h1, Instr.sameNow]
    rw [List.findIdx?_cons]
    by_cases hp : p.1 = i
    · simp [hp, h2]
    · have hp' : ¬ i = p.1 := fun q => hp q.symm
      simp only [if_true, beq_eq_false_iff_ne.2 hp', beq_eq_false_iff_ne.2 hp]
      rw [ih]
      cases hf : l.findIdx? (fun p => p.1 == i) with
      | none => simp
      | some j => simp; omega

theorem mapOf_spec (ht : TabOk P tab) {bx : Nat → Option (List Z1)} {t : TypeId} {m : Nat} {k k' : IntKind} {l : List (Int × Int)} (h : mapOf tab bx t m = some (k, k', l)) :
    bx m = some [.mp k k' l] ∧ ∃ kt et ei, P.underlying t = some (.map kt et) ∧ P.underlying kt = some (.int k) ∧ tlook tab et = some ei ∧ ei.ty = .int k' ∧ ei.zero = [.int k' 0] := by
  unfold mapOf at h
  split at h
  · rename_i kt et k0 k0' l0 h1 h2
    split at h
    · rename_i q0 ei h3 h4
      split at h
      · rename_i q1 q2 h5 h6
        split at h
        · rename_i hc
          cases h
          obtain ⟨i, d, _, _, hu, hf⟩ := und_of ht h1
          cases hf
          have hk := look_int ht h3
          obtain ⟨rfl, rfl, rfl⟩ := hc
          exact ⟨h2, kt, et, ei, hu, hk, h4, h5, h6⟩
        · cases h
      · cases h
    · cases h
  · cases h

theorem AI.mapIs (h : AI P E g s a W) {m : Nat} {k k' : IntKind} {l : List (Int × Int)} (hb : s.bx m = some [.mp k k' l]) :
    ∃ es clock, W.heap[g.ρ m]? = some (.map es clock) ∧ es.toList.map (fun e => (e.key, e.val)) = l.map (fun p => (Value.int k p.1, Value.int k' p.2)) := by
  obtain ⟨h1, _⟩ := h.h.box m _ (bc_of hb rfl)
  rcases h1 with ⟨vs, ty, _, _, hr⟩ | ⟨k0, k0', l0, es, cl, e, hh, hr⟩ | ⟨z0, o0, e, hh, hr⟩
  · have hl := hr.1
    obtain ⟨v, hv⟩ : ∃ v, (vs.toList.take [Z1.mp k k' l].length)[0]? = some v := ⟨_, List.getElem?_eq_getElem (by rw [hl]; simp)⟩
    exact (hr.2 0 v _ hv rfl).elim
  · simp only [List.cons.injEq, Z1.mp.injEq, and_true] at e
    obtain ⟨rfl, rfl, rfl⟩ := e
    exact ⟨es, cl, hh, hr⟩
  · simp only [List.cons.injEq, and_true] at e; subst e; cases hr

theorem goes_set {r : Nat} (o : Obj) : Goes W { W with heap := W.heap.setIfInBounds r o } (fun b => b = r) :=
  ⟨rfl, rfl, rfl, by simp, fun b _ hne => by simp [Array.getElem?_setIfInBounds, Ne.symm hne]⟩

theorem intK_of {v : Value} {z : V1} {k : IntKind} {n : Int} (h : RV W g v z) (hz : intKZ z = some (k, n)) : v = .int k n := by
  unfold intKZ at hz
  split at hz
  · rename_i k m
    cases hz
    have h' : RD W g.F v (.int k n) := h
    cases h'
    rfl
  · cases hz
theorem AI.intK (h : AI P E g s a W) {x : Operand} {k : IntKind} {n : Int} (hx : (s.ev x).bind intKZ = some (k, n)) : a.eval x = .int k n := by
  cases hz : s.ev x with
  | none => rw [hz] at hx; cases hx
  | some z => rw [hz] at hx; exact intK_of (h.ev hz).1 hx

theorem zero_int (ht : TabOk P tab) {et : TypeId} {ei : TyI} {k' : IntKind} (hl : tlook tab et = some ei) (hty : ei.ty = .int k') (hz : ei.zero = [.int k' 0]) (w : World) : (zeroValue et).run P w = .ok (.int k' 0) w := by
  obtain ⟨j, hj, hjs, _, v, hv, hvs, hvl, hvc⟩ := (ht et ei hl).info
  have hna := (ht et ei hl).plain (by rw [hty]; rfl) j v hj hv
  have hcells : v.cells = #[v] := by
    cases v <;> first | rfl | exact absurd rfl (hna _)
  have := hvc 0 v (.int k' 0) (by rw [hcells]; rfl) (by rw [hz]; rfl)
  have hv0 : v = .int k' 0 := by
    unfold constD at this
    split at this <;> first | (cases this; rfl) | cases this
  subst hv0
  simp [zeroValue, typeInfo, hj, hv]

theorem mapOp_wp (ht : TabOk P tab) (h : AI P E g s a W) {o : Oper} {st : Stp} {base : Nat} {n' : Nat → Prop} (hz : mapOp tab base s.bx s.ev o.op = some (some st)) (hC : holds st.C)
    (hd : ∀ d, o.dst = some d → d < E.nt) (hb : ¬ s.us base) (hm : ∀ k, s.us k → n' k) (hn : n' base) {Q : Exit → Act → World → Prop} :
    o.wp P a W (fun a' W' => ∃ g', AI P E g' (s.go o.dst st.z st.e n') a' W') Q := by
  have key : ∀ {kt : TypeId} {k : IntKind} (hk : P.underlying kt = some (.int k)) (e : Bool) (i : Int), (Instr.checkKey e 10000 kt (.int k i)).run P W = .ok () W := fun {kt k} hk e i => by
    unfold Instr.checkKey
    simp [run_underlying hk]
  have find : ∀ {kt : TypeId} {k k' : IntKind} (hk : P.underlying kt = some (.int k)) (i : Int) (es : Array MapEntry) (l : List (Int × Int)), es.toList.map (fun e => (e.key, e.val)) = l.map (fun p => (Value.int k p.1, Value.int k' p.2)) →
      (Instr.findKey kt (.int k i) es.toList).run P W = .ok (match l.findIdx? (fun p => p.1 == i) with
        | some j => some (j, .int k' (l.getD j (0, 0)).2)
        | none => none) W := fun {kt k k'} hk i es l hes => by
    unfold Instr.findKey
    simp only [Sem.run_bind, run_underlying hk, Result.andThen_ok, findNow_spec k k' i es.toList l 0 hes, Sem.run_pure, Nat.zero_add]
  unfold mapOp at hz
  split at hz
  · -- makeMap
    rename_i t ho
    simp only [Option.some.injEq] at hz
    split at hz
    · rename_i kt et hty
      split at hz
      · rename_i k k' h1 h2
        cases hz
        have h' := h.newO (dst := o.dst) (n' := n') (base := base) (cs := [.mp k k' []]) (o := .map #[] 0) (z := .one (.c (.mref base))) (v := .map (some W.heap.size)) rfl hd hb hm hn (.inr (.inl ⟨k, k', [], #[], 0, rfl, heap_alloc_new W _, rfl⟩)) (fun z hz => by simp at hz; subst hz; trivial)
          (show Value.map _ = Value.map (some (setN g.ρ base W.heap.size base)) by rw [setN_same]) hn
        unfold Oper.wp execOp
        simp [ho, Instr.makeMap, newObj, World.alloc]
        exact ⟨_, h'⟩
      · cases hz
    · cases hz
  · -- lookup
    rename_i t x ix ho
    split at hz
    · rename_i m hx
      simp only [Option.some.injEq] at hz
      split at hz
      · rename_i k k' l k2 i hmo hix
        split at hz
        · rename_i hk2
          subst hk2
          cases hz
          obtain ⟨hbx, kt, et, ei, hu, huk, hle, hty, hzero⟩ := mapOf_spec ht hmo
          obtain ⟨es, cl, hh, hes⟩ := h.mapIs hbx
          have hv : a.eval x = .map (some (g.ρ m)) := (h.ev hx).1
          have hi := h.intK hix
          have hrun : (Instr.lookup t (a.eval x) (a.eval ix) false).run P W = .ok (.int k' (getM l i)) W := by
            rw [hv, hi]
            unfold Instr.lookup
            simp only [Sem.run_bind, run_underlying hu, Result.andThen_ok, MapKept.run_getObj_map hh, Sem.run_pure, key huk, find huk i es l hes]
            unfold getM
            cases hf : l.findIdx? (fun p => p.1 == i) with
            | none => simp [zero_int ht hle hty hzero]
            | some j => simp
          unfold Oper.wp execOp
          simp only [ho, Sem.run_bind, hrun, Sem.run_pure, Result.andThen_ok]
          exact ⟨g, h.val hd hm (.int _ _) trivial⟩
        · cases hz
      · cases hz
    · cases hz
  · -- mapUpdate
    rename_i t x ix y ho
    split at hz
    · rename_i m hx
      simp only [Option.some.injEq] at hz
      split at hz
      · rename_i k k' l k2 i k3 v hmo hix hy
        split at hz
        · rename_i hk2
          obtain ⟨rfl, rfl⟩ := hk2
          cases hz
          obtain ⟨hbx, kt, et, ei, hu, huk, hle, hty, hzero⟩ := mapOf_spec ht hmo
          obtain ⟨es, cl, hh, hes⟩ := h.mapIs hbx
          have hv : a.eval x = .map (some (g.ρ m)) := (h.ev hx).1
          have hi := h.intK hix
          have hyv := h.intK hy
          have hrl : g.ρ m < W.heap.size := lt_of_heap hh
          have fin : ∀ (es' : Array MapEntry) (cl' : Nat), es'.toList.map (fun e => (e.key, e.val)) = (setM l i v).map (fun p => (Value.int k2 p.1, Value.int k3 p.2)) →
              (Instr.mapUpdate t (a.eval x) (a.eval ix) (a.eval y)).run P W = .ok () { W with heap := W.heap.setIfInBounds (g.ρ m) (.map es' cl') } →
              o.wp P a W (fun a' W' => ∃ g', AI P E g' (s.go o.dst .no ⟨[], [], [(m, [.mp k2 k3 (setM l i v)])]⟩ n') a' W') Q := by
            intro es' cl' he hrun
            have h' := h.writeO (dst := o.dst) (n' := n') (id := m) (cs := [.mp k2 k3 l]) (cs' := [.mp k2 k3 (setM l i v)]) (z := .no) (v := undef) rfl rfl hd hm hbx (goes_set (W := W) (r := g.ρ m) (.map es' cl')) (fun _ => .inr (.inl ⟨k2, k3, _, es', cl', rfl, by simp [Array.getElem?_setIfInBounds, hrl], he⟩)) (fun z hz => by simp at hz; subst hz; trivial) (fun _ => rfl) trivial
            unfold Oper.wp execOp
            simp only [ho, Sem.run_bind, hrun, Sem.run_pure, Result.andThen_ok]
            exact ⟨g, h'⟩
          have hlen : es.size = l.length := by have := congrArg List.length hes; simpa using this
          have hfind := find huk i es l hes
          unfold setM at fin ⊢
          cases hf : l.findIdx? (fun p => p.1 == i) with
          | none =>
            rw [hf] at hfind fin
            refine fin (es.push { key := .int k2 i, val := .int k3 v, born := cl }) (cl + 1) (by simp [hes]) ?_
            rw [hv, hi, hyv]
            unfold Instr.mapUpdate
            simp only [Sem.run_bind, run_underlying hu, Result.andThen_ok, MapKept.run_getObj_map hh, key huk, hfind, MapKept.run_setObj_map _ hh]
          | some j =>
            rw [hf] at hfind fin
            obtain ⟨hj, hp, _⟩ := List.findIdx?_eq_some_iff_getElem.1 hf
            have hje : j < es.size := by omega
            have hkey : es[j].key = .int k2 i := by
              have := congrArg (fun q => q[j]?) hes
              simp [List.getElem?_eq_getElem hj, Array.getElem?_eq_getElem hje] at this
              rw [this.1]
              simp at hp
              rw [hp]
            refine fin (es.modify j fun e => { e with key := .int k2 i, val := .int k3 v }) cl ?_ ?_
            · apply List.ext_getElem?
              intro q
              have hq := congrArg (fun r => r[q]?) hes
              simp only [List.getElem?_map] at hq
              simp only [List.getElem?_map, Array.getElem?_toList, Array.getElem?_modify, List.getElem?_set]
              rw [Array.getElem?_toList] at hq
              by_cases hqj : j = q
              · subst hqj
                simp [hj, Array.getElem?_eq_getElem hje]
              · simp only [hqj, if_false]
                exact hq
            · rw [hv, hi, hyv]
              unfold Instr.mapUpdate
              simp only [Sem.run_bind, run_underlying hu, Result.andThen_ok, MapKept.run_getObj_map hh, key huk, hfind, Array.getElem?_eq_getElem hje, Option.map_some, Option.getD_some, hkey, Instr.keyThatStays]
              simp [Instr.sameBits, MapKept.run_setObj_map _ hh]
        · cases hz
      · cases hz
    · cases hz
  · -- delete
    rename_i args ats ho
    obtain ⟨args⟩ := args
    obtain ⟨ats⟩ := ats
    simp only at hz
    split at hz
    · rename_i x ix t t'
      split at hz
      · rename_i m hx
        simp only [Option.some.injEq] at hz
        split at hz
        · rename_i k k' l k2 i hmo hix
          split at hz
          · rename_i hk2
            subst hk2
            cases hz
            obtain ⟨hbx, kt, et, ei, hu, huk, hle, hty, hzero⟩ := mapOf_spec ht hmo
            obtain ⟨es, cl, hh, hes⟩ := h.mapIs hbx
            have hv : a.eval x = .map (some (g.ρ m)) := (h.ev hx).1
            have hi := h.intK hix
            have hrl : g.ρ m < W.heap.size := lt_of_heap hh
            have hfind := find huk i es l hes
            have hlen : es.size = l.length := by have := congrArg List.length hes; simpa using this
            have fin : ∀ (es' : Array MapEntry), es'.toList.map (fun e => (e.key, e.val)) = (delM l i).map (fun p => (Value.int k2 p.1, Value.int k' p.2)) →
                (Builtin.delete_ #[t, t'] o.type #[a.eval x, a.eval ix]).run P W = .ok (.tuple #[]) { W with heap := W.heap.setIfInBounds (g.ρ m) (.map es' cl) } →
                o.wp P a W (fun a' W' => ∃ g', AI P E g' (s.go o.dst (.tup []) ⟨[], [], [(m, [.mp k2 k' (delM l i)])]⟩ n') a' W') Q := by
              intro es' he hrun
              have h' := h.writeO (dst := o.dst) (n' := n') (id := m) (cs := [.mp k2 k' l]) (cs' := [.mp k2 k' (delM l i)]) (z := .tup []) (v := .tuple #[]) rfl rfl hd hm hbx (goes_set (W := W) (r := g.ρ m) (.map es' cl)) (fun _ => .inr (.inl ⟨k2, k', _, es', cl, rfl, by simp [Array.getElem?_setIfInBounds, hrl], he⟩)) (fun z hz => by simp at hz; subst hz; trivial) (fun _ => ⟨#[], rfl, rfl, by simp⟩) (fun v hv => by cases hv)
              unfold Oper.wp execOp
              simp [ho, resolve, invoke, builtin, hrun]
              exact ⟨g, h'⟩
            unfold delM at fin ⊢
            cases hf : l.findIdx? (fun p => p.1 == i) with
            | none =>
              rw [hf] at hfind fin
              refine fin es hes ?_
              rw [hv, hi]
              unfold Builtin.delete_
              simp [run_underlying hu, MapKept.run_getObj_map hh, key huk, hfind, MapKept.run_setObj_map _ hh]
            | some j =>
              rw [hf] at hfind fin
              obtain ⟨hj, hp, _⟩ := List.findIdx?_eq_some_iff_getElem.1 hf
              have hje : j < es.size := by omega
              refine fin (es.eraseIdxIfInBounds j) ?_ ?_
              · rw [Array.eraseIdxIfInBounds, dif_pos hje, Array.toList_eraseIdx, map_erase, map_erase, hes]
              · rw [hv, hi]
                unfold Builtin.delete_
                simp [run_underlying hu, MapKept.run_getObj_map hh, key huk, hfind, MapKept.run_setObj_map _ hh]
          · cases hz
        · cases hz
      · cases hz
    · cases hz
  · -- len
    rename_i args ats ho
    obtain ⟨args⟩ := args
    obtain ⟨ats⟩ := ats
    simp only at hz
    split at hz
    · rename_i x t
      split at hz
      · rename_i m hx
        simp only [Option.some.injEq] at hz
        split at hz
        · rename_i k k' l hmo
          cases hz
          obtain ⟨hbx, kt, et, ei, hu, huk, hle, hty, hzero⟩ := mapOf_spec ht hmo
          obtain ⟨es, cl, hh, hes⟩ := h.mapIs hbx
          have hv : a.eval x = .map (some (g.ρ m)) := (h.ev hx).1
          have hlen : es.size = l.length := by have := congrArg List.length hes; simpa using this
          unfold Oper.wp execOp
          simp [ho, resolve, invoke, builtin, Builtin.len_, hv, run_underlying hu, goInt, MapKept.run_getObj_map hh, hlen]
          exact ⟨g, h.val hd hm (.int _ _) trivial⟩
        · cases hz
      · cases hz
    · cases hz
  · cases hz

end
end Zed
