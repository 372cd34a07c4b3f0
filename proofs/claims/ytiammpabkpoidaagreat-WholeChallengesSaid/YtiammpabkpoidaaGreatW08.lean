/- Texts ZedKg of our own machine for the walk of WholeChallenges, one behind the other. -/
import Derived.Test.YtiammpabkpoidaaGreatW07
namespace Zed
open Go
set_option linter.unusedVariables false
set_option linter.unusedSimpArgs false

noncomputable abbrev Ents := List (Int × Nat × Nat)
noncomputable def getP (l : Ents) (i : Int) : Z1 := match l.findIdx? (fun p => p.1 == i) with
  | some j => .ptr (l.getD j (0, 0, 0)).2.1 0
  | none => .d .nilP
noncomputable def setP (l : Ents) (cl : Nat) (i : Int) (id : Nat) : Ents × Nat := match l.findIdx? (fun p => p.1 == i) with
  | some j => (l.set j (i, id, (l.getD j (0, 0, 0)).2.2), cl)
  | none => (l ++ [(i, id, cl)], cl + 1)
/-- A map's types: numbers to pointers. -/
noncomputable def mppT (tab : Tab) (t : TypeId) : Option IntKind := match (tlook tab t).map TyI.ty with
  | some (.map kt et) => match (tlook tab kt).map TyI.ty, tlook tab et with
    | some (.int k), some ei => match ei.ty, ei.zero with
      | .ptr _, [.nilP] => some k
      | _, _ => none
    | _, _ => none
  | _ => none
noncomputable def mppB (bx : Nat → Option (List Z1)) (m : Nat) : Option (IntKind × Ents × Nat) := match bx m with
  | some [.mpp k l cl] => some (k, l, cl)
  | _ => none
noncomputable def mppOp (tab : Tab) (base : Nat) (bx : Nat → Option (List Z1)) (ev : Operand → Option V1) (op : Op) : Option Stp :=
  match op with
  | .makeMap t none => (mppT tab t).map fun k => ⟨.one (.c (.mref base)), ⟨[], [], [(base, [.mpp k [] 0])]⟩, [], none⟩
  | .lookup t x ix false => match ev x, mppT tab t, (ev ix).bind intKZ with
    | some (.c (.mref m)), some k, some (k2, i) => match mppB bx m with
      | some (k3, l, cl) => if k2 = k ∧ k3 = k then some ⟨.one (.c (getP l i)), Eff.no, [m], none⟩ else none
      | none => none
    | _, _, _ => none
  | .mapUpdate t x ix y => match ev x, mppT tab t, (ev ix).bind intKZ, ev y with
    | some (.c (.mref m)), some k, some (k2, i), some (.c (.ptr id 0)) => match mppB bx m with
      | some (k3, l, cl) => if k2 = k ∧ k3 = k then some ⟨.no, ⟨[], [], [(m, [.mpp k (setP l cl i id).1 (setP l cl i id).2])]⟩, [m], none⟩ else none
      | none => none
    | _, _, _, _ => none
  | .call ⟨.builtin .len, args, ats⟩ => match args.toList, ats.toList with
    | [x], [t] => match ev x, mppT tab t with
      | some (.c (.mref m)), some k => match mppB bx m with
        | some (k3, l, cl) => some ⟨.one (.c (.d (.int .i64 l.length))), Eff.no, [m], none⟩
        | none => none
      | _, _ => none
    | _, _ => none
  | _ => none
/-- A way through a map: what the next step may be: over, or the one entry. -/
noncomputable def nextZ (l : Ents) (since : Nat) (seen : List Nat) (last : Nat) : Option (Option (Int × Nat × Nat)) :=
  if (!seen.isEmpty && !l.isEmpty && l.all (fun p => Nat.ble last p.2.2)) = true then none else
  match (l.filter fun p => !seen.contains p.2.2).filter (fun p => decide (p.2.2 < since)), (l.filter fun p => !seen.contains p.2.2).filter (fun p => decide (p.2.2 ≥ since)) with
  | [], [] => some none
  | [p], [] => some (some p)
  | _, _ => none
noncomputable def itOp (tab : Tab) (base : Nat) (bx : Nat → Option (List Z1)) (ev : Operand → Option V1) (op : Op) : Option (Option Stp) :=
  match op with
  | .range t x => match ev x with
    | some (.c (.mref m)) => some (match mppT tab t, mppB bx m with
      | some k, some (k3, l, cl) => some ⟨.one (.c (.ptr base 0)), ⟨[], [], [(base, [.itr m cl [] cl])]⟩, [m], none⟩
      | _, _ => none)
    | _ => none
  | .next it false => match ev it with
    | some (.c (.ptr q 0)) => some (match bx q with
      | some [.itr m since seen last] => match mppB bx m with
        | some (k, l, cl) => match nextZ l since seen last with
          | some none => some ⟨.tup [.c (.d (.bool false))], Eff.no, [q, m], none⟩
          | some (some p) => some ⟨.tup [.c (.d (.bool true)), .c (.d (.int k p.1)), .c (.ptr p.2.1 0)], ⟨[], [], [(q, [.itr m since (seen ++ [p.2.2]) cl])]⟩, [q, m], none⟩
          | none => none
        | none => none
      | _ => none)
    | _ => none
  | .entry it => match ev it with
    | some (.c (.ptr q 0)) => some (match bx q with
      | some [.itr m since seen last] => match mppB bx m with
        | some (k, l, cl) => match seen.getLast? with
          | some b => match l.find? (fun p => p.2.2 == b) with
            | some p => if cl = last then some ⟨.tup [.c (.d (.int k p.1)), .c (.ptr p.2.1 0)], Eff.no, [q, m], none⟩ else none
            | none => none
          | none => none
        | none => none
      | _ => none)
    | _ => none
  | _ => none

section
variable {P : Program} {tab : Tab} {E : Ent} {g : G} {s : S} {a : Act} {W W' : World} {F : Nat → Nat → Prop}

noncomputable def entP (ρ : Nat → Nat) (k : IntKind) (p : Int × Nat × Nat) : MapEntry := ⟨.int k p.1, .pointer (some ⟨ρ p.2.1, 0, none⟩), p.2.2⟩
theorem findNow_P (ρ : Nat → Nat) (k : IntKind) (i : Int) : ∀ (l : Ents) (n : Nat),
    Instr.findNow (.int k) (.int k i) (l.map (entP ρ k)) n = some (match l.findIdx? (fun p => p.1 == i) with
      | some j => some (n + j, .pointer (some ⟨ρ (l.getD j (0, 0, 0)).2.1, 0, none⟩))
      | none => none)
  | [], n => rfl
  | p :: l, n => by
    have ih := findNow_P ρ k i l (n + 1)
    simp only [List.map_cons, Instr.findNow, entP, Instr.sameNow]
    rw [List.findIdx?_cons]
    by_cases hp : p.1 = i
    · simp [hp]
    · have hp' : ¬ i = p.1 := fun q => hp q.symm
      simp only [if_true, beq_eq_false_iff_ne.2 hp', beq_eq_false_iff_ne.2 hp]
      have ih' : Instr.findNow (.int k) (.int k i) (List.map (fun p => ({ key := Value.int k p.fst, val := Value.pointer (some { block := ρ p.snd.fst, off := 0 }), born := p.snd.snd } : MapEntry)) l) (n + 1) = _ := ih
      rw [show (List.map (entP ρ k) l) = (List.map (fun p => ({ key := Value.int k p.fst, val := Value.pointer (some { block := ρ p.snd.fst, off := 0 }), born := p.snd.snd } : MapEntry)) l) from rfl, ih']
      cases hf : l.findIdx? (fun p => p.1 == i) with
      | none => simp
      | some j => simp; omega

theorem mppT_spec (ht : TabOk P tab) {t : TypeId} {k : IntKind} (h : mppT tab t = some k) :
    ∃ kt et ei, P.underlying t = some (.map kt et) ∧ P.underlying kt = some (.int k) ∧ tlook tab et = some ei ∧ ei.ty.isAgg = false ∧ ei.zero = [.nilP] := by
  unfold mppT at h
  split at h
  · rename_i kt et h1
    split at h
    · rename_i k0 ei h3 h4
      split at h
      · rename_i e h5 h6
        cases h
        obtain ⟨i, d, _, _, hu, hf⟩ := und_of ht h1
        cases hf
        exact ⟨kt, et, ei, hu, look_int ht h3, h4, by rw [h5]; rfl, h6⟩
      · cases h
    · cases h
  · cases h
theorem mppB_spec {bx : Nat → Option (List Z1)} {m : Nat} {k : IntKind} {l : Ents} {cl : Nat} (h : mppB bx m = some (k, l, cl)) : bx m = some [.mpp k l cl] := by
  unfold mppB at h
  split at h
  · rename_i k' l' cl' hb; cases h; exact hb
  · cases h
theorem AI.mppIs (h : AI P E g s a W) {m : Nat} {k : IntKind} {l : Ents} {cl : Nat} (hb : s.bx m = some [.mpp k l cl]) : W.heap[g.ρ m]? = some (.map (l.map (entP g.ρ k)).toArray cl) := by
  obtain ⟨h1, _⟩ := h.h.box m _ (bc_of hb rfl)
  rcases h1 with ⟨vs, ty, _, _, hr⟩ | ⟨k0, k0', l0, es, cl, e, hh, hr⟩ | ⟨z0, o0, e, hh, hr⟩
  · have hl := hr.1
    obtain ⟨v, hv⟩ : ∃ v, (vs.toList.take [Z1.mpp k l cl].length)[0]? = some v := ⟨_, List.getElem?_eq_getElem (by rw [hl]; simp)⟩
    exact (hr.2 0 v _ hv rfl).elim
  · cases e
  · cases e
    simp only [objOf, Option.some.injEq] at hr
    rw [hh, ← hr]; rfl
theorem AI.itrIs (h : AI P E g s a W) {q m since last : Nat} {seen : List Nat} (hb : s.bx q = some [.itr m since seen last]) : W.heap[g.ρ q]? = some (.mapIter (some (g.ρ m)) since seen.toArray last) := by
  obtain ⟨h1, _⟩ := h.h.box q _ (bc_of hb rfl)
  rcases h1 with ⟨vs, ty, _, _, hr⟩ | ⟨k0, k0', l0, es, cl, e, hh, hr⟩ | ⟨z0, o0, e, hh, hr⟩
  · have hl := hr.1
    obtain ⟨v, hv⟩ : ∃ v, (vs.toList.take [Z1.itr m since seen last].length)[0]? = some v := ⟨_, List.getElem?_eq_getElem (by rw [hl]; simp)⟩
    exact (hr.2 0 v _ hv rfl).elim
  · cases e
  · cases e
    simp only [objOf, Option.some.injEq] at hr
    rw [hh, ← hr]
theorem zero_nilP (ht : TabOk P tab) {et : TypeId} {ei : TyI} (hl : tlook tab et = some ei) (hty : ei.ty.isAgg = false) (hz : ei.zero = [.nilP]) (w : World) : (zeroValue et).run P w = .ok (.pointer none) w := by
  obtain ⟨j, hj, hjs, _, v, hv, hvs, hvl, hvc⟩ := (ht et ei hl).info
  have hna := (ht et ei hl).plain hty j v hj hv
  have hcells : v.cells = #[v] := by
    cases v <;> first | rfl | exact absurd rfl (hna _)
  have := hvc 0 v .nilP (by rw [hcells]; rfl) (by rw [hz]; rfl)
  have hv0 : v = .pointer none := by
    unfold constD at this
    split at this <;> first | (cases this; rfl) | cases this
  subst hv0
  simp [zeroValue, typeInfo, hj, hv]
theorem getP_rd (l : Ents) (i : Int) : RC W g (match l.findIdx? (fun p => p.1 == i) with
      | some j => .pointer (some ⟨g.ρ (l.getD j (0, 0, 0)).2.1, 0, none⟩)
      | none => .pointer none) (getP l i) := by
  unfold getP
  cases l.findIdx? (fun p => p.1 == i) with
  | none => exact RD.nilP
  | some j => rfl
theorem getP_low {n : Nat → Prop} {l : Ents} (h : ∀ p ∈ l, n p.2.1) (i : Int) : (getP l i).below n := by
  unfold getP
  cases hf : l.findIdx? (fun p => p.1 == i) with
  | none => trivial
  | some j =>
    obtain ⟨hj, _, _⟩ := List.findIdx?_eq_some_iff_getElem.1 hf
    show n _
    rw [List.getD, List.getElem?_eq_getElem hj]
    exact h _ (List.getElem_mem hj)

theorem mppOp_wp (ht : TabOk P tab) (h : AI P E g s a W) {o : Oper} {st : Stp} {base : Nat} {n' : Nat → Prop} (hz : mppOp tab base s.bx s.ev o.op = some st) (hC : holds st.C)
    (hd : ∀ d, o.dst = some d → d < E.nt) (hb : ¬ s.us base) (hm : ∀ k, s.us k → n' k) (hn : n' base) {Q : Exit → Act → World → Prop} :
    o.wp P a W (fun a' W' => ∃ g', AI P E g' (s.go o.dst st.z st.e n') a' W') Q := by
  have key : ∀ {kt : TypeId} {k : IntKind} (hk : P.underlying kt = some (.int k)) (e : Bool) (i : Int), (Instr.checkKey e 10000 kt (.int k i)).run P W = .ok () W := fun {kt k} hk e i => by
    unfold Instr.checkKey
    simp [run_underlying hk]
  have find : ∀ {kt : TypeId} {k : IntKind} (hk : P.underlying kt = some (.int k)) (i : Int) (l : Ents),
      (Instr.findKey kt (.int k i) (l.map (entP g.ρ k))).run P W = .ok (match l.findIdx? (fun p => p.1 == i) with
        | some j => some (j, .pointer (some ⟨g.ρ (l.getD j (0, 0, 0)).2.1, 0, none⟩))
        | none => none) W := fun {kt k} hk i l => by
    unfold Instr.findKey
    simp only [Sem.run_bind, run_underlying hk, Result.andThen_ok, findNow_P g.ρ k i l 0, Sem.run_pure, Nat.zero_add]
  unfold mppOp at hz
  split at hz
  · -- makeMap
    rename_i t ho
    obtain ⟨k, hk, rfl⟩ := omap hz
    have h' := h.newO (dst := o.dst) (n' := n') (base := base) (cs := [.mpp k [] 0]) (o := .map #[] 0) (z := .one (.c (.mref base))) (v := .map (some W.heap.size)) rfl hd hb hm hn (.inr (.inr ⟨_, _, rfl, heap_alloc_new W _, rfl⟩)) (fun z hz => by simp at hz; subst hz; exact fun p hp => by cases hp)
      (show Value.map _ = Value.map (some (setN g.ρ base W.heap.size base)) by rw [setN_same]) hn
    unfold Oper.wp execOp
    simp [ho, Instr.makeMap, newObj, World.alloc]
    exact ⟨_, h'⟩
  · -- lookup
    rename_i t x ix ho
    split at hz
    · rename_i m k k2 i hx hT hix
      split at hz
      · rename_i k3 l cl hmb
        split at hz
        · rename_i hk
          obtain ⟨rfl, rfl⟩ := hk
          cases hz
          obtain ⟨kt, et, ei, hu, huk, hle, hty, hzero⟩ := mppT_spec ht hT
          have hbx := mppB_spec hmb
          have hh := h.mppIs hbx
          have hv : a.eval x = .map (some (g.ρ m)) := (h.ev hx).1
          have hi := h.intK hix
          have hrun : (Instr.lookup t (a.eval x) (a.eval ix) false).run P W = .ok (match l.findIdx? (fun p => p.1 == i) with
              | some j => .pointer (some ⟨g.ρ (l.getD j (0, 0, 0)).2.1, 0, none⟩)
              | none => .pointer none) W := by
            rw [hv, hi]
            unfold Instr.lookup
            simp only [Sem.run_bind, run_underlying hu, Result.andThen_ok, MapKept.run_getObj_map hh, Sem.run_pure, key huk, List.toList_toArray, find huk i l]
            cases hf : l.findIdx? (fun p => p.1 == i) with
            | none => simp [zero_nilP ht hle hty hzero]
            | some j => simp
          unfold Oper.wp execOp
          simp only [ho, Sem.run_bind, hrun, Sem.run_pure, Result.andThen_ok]
          exact ⟨g, h.val hd hm (getP_rd l i) (getP_low ((h.boxLow m _ hbx).2 (.mpp k3 l cl) (by simp)) i)⟩
        · cases hz
      · cases hz
    · cases hz
  · -- mapUpdate
    rename_i t x ix y ho
    split at hz
    · rename_i m k k2 i id hx hT hix hy
      split at hz
      · rename_i k3 l cl hmb
        split at hz
        · rename_i hk
          obtain ⟨rfl, rfl⟩ := hk
          cases hz
          obtain ⟨kt, et, ei, hu, huk, hle, hty, hzero⟩ := mppT_spec ht hT
          have hbx := mppB_spec hmb
          have hh := h.mppIs hbx
          have hlow : ∀ p ∈ l, s.us p.2.1 := (h.boxLow m _ hbx).2 (.mpp k3 l cl) (by simp)
          have hv : a.eval x = .map (some (g.ρ m)) := (h.ev hx).1
          have hi := h.intK hix
          have hyv : a.eval y = .pointer (some ⟨g.ρ id, 0, none⟩) := (h.ev hy).1
          have hidl : s.us id := (h.ev hy).2
          have hrl : g.ρ m < W.heap.size := lt_of_heap hh
          have fin : (∀ p ∈ (setP l cl i id).1, s.us p.2.1) → (Instr.mapUpdate t (a.eval x) (a.eval ix) (a.eval y)).run P W = .ok () { W with heap := W.heap.setIfInBounds (g.ρ m) (.map ((setP l cl i id).1.map (entP g.ρ k3)).toArray (setP l cl i id).2) } →
              o.wp P a W (fun a' W' => ∃ g', AI P E g' (s.go o.dst .no ⟨[], [], [(m, [.mpp k3 (setP l cl i id).1 (setP l cl i id).2])]⟩ n') a' W') Q := by
            intro hlow' hrun
            have h' := h.writeO (dst := o.dst) (n' := n') (id := m) (cs := [.mpp k3 l cl]) (cs' := [.mpp k3 (setP l cl i id).1 (setP l cl i id).2]) (z := .no) (v := undef) rfl rfl hd hm hbx (goes_set (W := W) (r := g.ρ m) (.map ((setP l cl i id).1.map (entP g.ρ k3)).toArray (setP l cl i id).2))
              (fun _ => .inr (.inr ⟨_, .map ((setP l cl i id).1.map (entP g.ρ k3)).toArray (setP l cl i id).2, rfl, by simp [Array.getElem?_setIfInBounds, hrl], rfl⟩)) (fun z hz => by simp at hz; subst hz; exact hlow') (fun _ => rfl) trivial
            unfold Oper.wp execOp
            simp only [ho, Sem.run_bind, hrun, Sem.run_pure, Result.andThen_ok]
            exact ⟨g, h'⟩
          have hfind := find huk i l
          unfold setP at fin ⊢
          cases hf : l.findIdx? (fun p => p.1 == i) with
          | none =>
            rw [hf] at hfind fin
            refine fin (fun p hp => ?_) ?_
            · rcases List.mem_append.1 hp with hp | hp
              · exact hlow p hp
              · simp at hp; subst hp; exact hidl
            rw [hv, hi, hyv]
            unfold Instr.mapUpdate
            simp only [Sem.run_bind, run_underlying hu, Result.andThen_ok, MapKept.run_getObj_map hh, key huk, List.toList_toArray, hfind, MapKept.run_setObj_map _ hh]
            have e : (l.map (entP g.ρ k3)).toArray.push { key := .int k3 i, val := .pointer (some ⟨g.ρ id, 0, none⟩), born := cl } = ((l ++ [(i, id, cl)]).map (entP g.ρ k3)).toArray := by simp [entP]
            rw [e]
          | some j =>
            rw [hf] at hfind fin
            obtain ⟨hj, hp, _⟩ := List.findIdx?_eq_some_iff_getElem.1 hf
            have hkey : l[j].1 = i := by simpa using hp
            have hje : (l.map (entP g.ρ k3)).toArray[j]? = some (entP g.ρ k3 l[j]) := by simp [List.getElem?_eq_getElem hj]
            refine fin (fun p hp => ?_) ?_
            · rcases List.mem_or_eq_of_mem_set hp with hp | rfl
              · exact hlow p hp
              · exact hidl
            rw [hv, hi, hyv]
            unfold Instr.mapUpdate
            simp only [Sem.run_bind, run_underlying hu, Result.andThen_ok, MapKept.run_getObj_map hh, key huk, List.toList_toArray, hfind, hje, Option.map_some, Option.getD_some, Instr.keyThatStays]
            simp only [entP, hkey]
            have e : ((l.map (entP g.ρ k3)).modify j fun e => { e with key := .int k3 i, val := .pointer (some ⟨g.ρ id, 0, none⟩) }) = (l.set j (i, id, (l.getD j (0, 0, 0)).2.2)).map (entP g.ρ k3) := by
              apply List.ext_getElem?
              intro q
              rw [List.getElem?_modify, List.getElem?_map, List.getElem?_map, List.getElem?_set]
              by_cases hq : j = q
              · subst hq
                simp [hj, List.getD, List.getElem?_eq_getElem hj, entP]
              · simp [hq]
            simp [Instr.sameBits, MapKept.run_setObj_map _ hh]
            rw [show ((l.map (entP g.ρ k3)).modify j fun e => { key := Value.int k3 i, val := Value.pointer (some { block := g.ρ id, off := 0 }), born := e.born }) = _ from e]
            simp [List.getD]
        · cases hz
      · cases hz
    · cases hz
  · -- len
    rename_i args ats ho
    obtain ⟨args⟩ := args
    obtain ⟨ats⟩ := ats
    simp only at hz
    split at hz
    · rename_i x t
      split at hz
      · rename_i m k hx hT
        split at hz
        · rename_i k3 l cl hmb
          cases hz
          obtain ⟨kt, et, ei, hu, huk, hle, hty, hzero⟩ := mppT_spec ht hT
          have hh := h.mppIs (mppB_spec hmb)
          have hv : a.eval x = .map (some (g.ρ m)) := (h.ev hx).1
          unfold Oper.wp execOp
          simp [ho, resolve, invoke, builtin, Builtin.len_, hv, run_underlying hu, goInt, MapKept.run_getObj_map hh]
          exact ⟨g, h.val hd hm (.int _ _) trivial⟩
        · cases hz
      · cases hz
    · cases hz
  · cases hz

theorem itOp_wp (ht : TabOk P tab) (h : AI P E g s a W) {o : Oper} {st : Stp} {base : Nat} {n' : Nat → Prop} (hz : itOp tab base s.bx s.ev o.op = some (some st)) (hC : holds st.C)
    (hd : ∀ d, o.dst = some d → d < E.nt) (hb : ¬ s.us base) (hm : ∀ k, s.us k → n' k) (hn : n' base) {Q : Exit → Act → World → Prop} :
    o.wp P a W (fun a' W' => ∃ g', AI P E g' (s.go o.dst st.z st.e n') a' W') Q := by
  unfold itOp at hz
  split at hz
  · -- range
    rename_i t x ho
    split at hz
    · rename_i m hx
      simp only [Option.some.injEq] at hz
      split at hz
      · rename_i k k3 l cl hT hmb
        cases hz
        obtain ⟨kt, et, ei, hu, huk, hle, hty, hzero⟩ := mppT_spec ht hT
        have hh := h.mppIs (mppB_spec hmb)
        obtain ⟨q1, q2⟩ := h.ev hx
        have hv : a.eval x = .map (some (g.ρ m)) := q1
        have hne : m ≠ base := fun e => hb (e ▸ q2)
        have hrun : (Instr.range t (a.eval x)).run P W = .ok (.pointer (some ⟨W.heap.size, 0, none⟩)) (W.alloc (.mapIter (some (g.ρ m)) cl #[] cl)) := by
          rw [hv]
          unfold Instr.range
          simp only [Sem.run_bind, run_underlying hu, Result.andThen_ok, MapKept.run_getObj_map hh, Sem.run_pure]
          rfl
        have h' := h.newO (dst := o.dst) (n' := n') (base := base) (cs := [.itr m cl [] cl]) (o := .mapIter (some (g.ρ m)) cl #[] cl) (z := .one (.c (.ptr base 0))) (v := .pointer (some ⟨W.heap.size, 0, none⟩)) rfl hd hb hm hn
          (.inr (.inr ⟨_, _, rfl, heap_alloc_new W _, by show some (Obj.mapIter (some (setN g.ρ base W.heap.size m)) _ _ _) = _; rw [setN_ne _ _ hne]⟩)) (fun z hz => by simp at hz; subst hz; exact q2)
          (show Value.pointer _ = Value.pointer (some ⟨setN g.ρ base W.heap.size base, 0, none⟩) by rw [setN_same]) hn
        unfold Oper.wp execOp
        simp only [ho, Sem.run_bind, hrun, Sem.run_pure, Result.andThen_ok]
        exact ⟨_, h'⟩
      · cases hz
    · cases hz
  · -- next
    rename_i it ho
    split at hz
    · rename_i q hx
      simp only [Option.some.injEq] at hz
      split at hz
      · rename_i m since seen last hq
        split at hz
        · rename_i k l cl hmb
          have hbm := mppB_spec hmb
          have hh := h.mppIs hbm
          have hi := h.itrIs hq
          have hlow : ∀ p ∈ l, s.us p.2.1 := (h.boxLow m _ hbm).2 (.mpp k l cl) (by simp)
          have hv : a.eval it = .pointer (some ⟨g.ρ q, 0, none⟩) := (h.ev hx).1
          have hgo : ∀ {r : Nat} {ob : Obj}, W.heap[r]? = some ob → (∀ c e f, ob ≠ .cells c e f) → (getObj r).run P W = .ok ob W := fun {r ob} hr _ => by simp [getObj, Sem.run, hr]
          have hg1 : (getObj (g.ρ q)).run P W = .ok (.mapIter (some (g.ρ m)) since seen.toArray last) W := by simp [getObj, Sem.run, hi]
          have hg2 : (getObj (g.ρ m)).run P W = .ok (.map (l.map (entP g.ρ k)).toArray cl) W := by simp [getObj, Sem.run, hh]
          have hcond : nextZ l since seen last ≠ none → (!seen.toArray.isEmpty && !(l.map (entP g.ρ k)).toArray.isEmpty && (l.map (entP g.ρ k)).toArray.all (fun e => decide (e.born ≥ last))) = false := by
            intro hnz
            unfold nextZ at hnz
            split at hnz
            · exact absurd rfl hnz
            · rename_i hc
              have hc : (!seen.isEmpty && !l.isEmpty && l.all (fun p => Nat.ble last p.2.2)) = false := by simpa using hc
              rw [← hc]
              congr 1
              · congr 1
                · cases seen <;> rfl
                · cases l <;> rfl
              · rw [List.all_toArray, List.all_map]
                congr 1
                funext p
                simp only [Function.comp, entP]
                rw [Bool.eq_iff_iff]
                simp
          have hleft : (l.map (entP g.ρ k)).toArray.filter (fun e => !seen.toArray.contains e.born) = ((l.filter fun p => !seen.contains p.2.2).map (entP g.ρ k)).toArray := by
            rw [List.filter_toArray, List.filter_map]
            congr 2
            apply List.filter_congr
            intro p _
            simp [Function.comp, entP]
          have hold : ((l.filter fun p => !seen.contains p.2.2).map (entP g.ρ k)).toArray.filter (fun e => decide (e.born < since)) = (((l.filter fun p => !seen.contains p.2.2).filter fun p => decide (p.2.2 < since)).map (entP g.ρ k)).toArray := by
            rw [List.filter_toArray, List.filter_map]; rfl
          have hnew : ((l.filter fun p => !seen.contains p.2.2).map (entP g.ρ k)).toArray.filter (fun e => decide (e.born ≥ since)) = (((l.filter fun p => !seen.contains p.2.2).filter fun p => decide (p.2.2 ≥ since)).map (entP g.ρ k)).toArray := by
            rw [List.filter_toArray, List.filter_map]; rfl
          split at hz
          · rename_i hnx
            cases hz
            have hc := hcond (by rw [hnx]; simp)
            obtain ⟨ho1, ho2⟩ : (l.filter fun p => !seen.contains p.2.2).filter (fun p => decide (p.2.2 < since)) = [] ∧ (l.filter fun p => !seen.contains p.2.2).filter (fun p => decide (p.2.2 ≥ since)) = [] := by
              unfold nextZ at hnx
              split at hnx
              · cases hnx
              · split at hnx
                · rename_i e1 e2; exact ⟨e1, e2⟩
                · cases hnx
                · cases hnx
            have hrun : (Instr.next (a.eval it) false o.type).run P W = .ok (.tuple #[.bool false]) W := by
              rw [hv]
              unfold Instr.next
              simp only [Sem.run_bind, hg1, Result.andThen_ok, hg2, hc]
              simp only [hleft, hold, hnew, ho1, ho2, List.map_nil]
              simp [Question.forced]
            unfold Oper.wp execOp
            simp only [ho, Sem.run_bind, hrun, Sem.run_pure, Result.andThen_ok]
            exact ⟨g, h.val hd hm ⟨#[.bool false], rfl, rfl, fun j u x hu hx => by
              match j with
              | 0 => cases hu; cases hx; exact RD.bool _
              | j + 1 => cases hx⟩ (fun v hv => by simp at hv; subst hv; trivial)⟩
          · rename_i p hnx
            cases hz
            have hc := hcond (by rw [hnx]; simp)
            obtain ⟨ho1, ho2⟩ : (l.filter fun p => !seen.contains p.2.2).filter (fun p => decide (p.2.2 < since)) = [p] ∧ (l.filter fun p => !seen.contains p.2.2).filter (fun p => decide (p.2.2 ≥ since)) = [] := by
              unfold nextZ at hnx
              split at hnx
              · cases hnx
              · split at hnx
                · cases hnx
                · rename_i e1 e2; cases hnx; exact ⟨e1, e2⟩
                · cases hnx
            have hpl : p ∈ l := by
              have : p ∈ (l.filter fun p => !seen.contains p.2.2).filter (fun p => decide (p.2.2 < since)) := by rw [ho1]; simp
              exact (List.mem_filter.1 (List.mem_filter.1 this).1).1
            have hrl : g.ρ q < W.heap.size := lt_of_heap hi
            have hset : ∀ ob : Obj, (setObj (g.ρ q) ob).run P W = .ok () { W with heap := W.heap.setIfInBounds (g.ρ q) ob } := fun ob => by simp [setObj, Sem.run, hi]
            have hrun : (Instr.next (a.eval it) false o.type).run P W = .ok (.tuple #[.bool true, .int k p.1, .pointer (some ⟨g.ρ p.2.1, 0, none⟩)]) { W with heap := W.heap.setIfInBounds (g.ρ q) (.mapIter (some (g.ρ m)) since (seen ++ [p.2.2]).toArray cl) } := by
              rw [hv]
              unfold Instr.next
              simp only [Sem.run_bind, hg1, Result.andThen_ok, hg2, hc]
              simp only [hleft, hold, hnew, ho1, ho2, List.map_nil, List.map_cons]
              simp [Question.forced, entP, hset]
            have h' := h.writeO (dst := o.dst) (n' := n') (id := q) (cs := [.itr m since seen last]) (cs' := [.itr m since (seen ++ [p.2.2]) cl]) (z := .tup [.c (.d (.bool true)), .c (.d (.int k p.1)), .c (.ptr p.2.1 0)])
              (v := .tuple #[.bool true, .int k p.1, .pointer (some ⟨g.ρ p.2.1, 0, none⟩)]) rfl rfl hd hm hq (goes_set (W := W) (r := g.ρ q) (.mapIter (some (g.ρ m)) since (seen ++ [p.2.2]).toArray cl))
              (fun _ => .inr (.inr ⟨_, .mapIter (some (g.ρ m)) since (seen ++ [p.2.2]).toArray cl, rfl, by simp [Array.getElem?_setIfInBounds, hrl], rfl⟩)) (fun z hz => by simp at hz; subst hz; exact (h.boxLow q _ hq).2 (.itr m since seen last) (by simp))
              (fun _ => ⟨_, rfl, rfl, fun j u x hu hx => by
                match j with
                | 0 => cases hu; cases hx; exact RD.bool _
                | 1 => cases hu; cases hx; exact RD.int _ _
                | 2 => cases hu; cases hx; rfl
                | j + 3 => cases hx⟩) (fun v hv => by
                simp at hv
                rcases hv with rfl | rfl | rfl
                · trivial
                · trivial
                · exact hlow p hpl)
            unfold Oper.wp execOp
            simp only [ho, Sem.run_bind, hrun, Sem.run_pure, Result.andThen_ok]
            exact ⟨g, h'⟩
          · cases hz
        · cases hz
      · cases hz
    · cases hz
  · -- entry
    rename_i it ho
    split at hz
    · rename_i q hx
      simp only [Option.some.injEq] at hz
      split at hz
      · rename_i m since seen last hq
        split at hz
        · rename_i k l cl hmb
          have hbm := mppB_spec hmb
          have hh := h.mppIs hbm
          have hi := h.itrIs hq
          have hlow : ∀ p ∈ l, s.us p.2.1 := (h.boxLow m _ hbm).2 (.mpp k l cl) (by simp)
          have hv : a.eval it = .pointer (some ⟨g.ρ q, 0, none⟩) := (h.ev hx).1
          have hg1 : (getObj (g.ρ q)).run P W = .ok (.mapIter (some (g.ρ m)) since seen.toArray last) W := by simp [getObj, Sem.run, hi]
          have hg2 : (getObj (g.ρ m)).run P W = .ok (.map (l.map (entP g.ρ k)).toArray cl) W := by simp [getObj, Sem.run, hh]
          split at hz
          · rename_i b hb1
            split at hz
            · rename_i p hf
              split at hz
              · rename_i hcl
                cases hz
                subst hcl
                have hpl : p ∈ l := List.mem_of_find?_eq_some hf
                have hback : seen.toArray.back? = some b := by
                  rw [← hb1]; simp
                have hfind : (l.map (entP g.ρ k)).toArray.find? (fun e => e.born == b) = some (entP g.ρ k p) := by
                  rw [List.find?_toArray, List.find?_map]
                  have : (fun e : MapEntry => e.born == b) ∘ entP g.ρ k = fun p => p.2.2 == b := rfl
                  rw [this, hf]; rfl
                have hrun : (Instr.entry (a.eval it)).run P W = .ok (.tuple #[.int k p.1, .pointer (some ⟨g.ρ p.2.1, 0, none⟩)]) W := by
                  rw [hv]
                  unfold Instr.entry
                  simp only [Sem.run_bind, hg1, Result.andThen_ok, hback, hg2]
                  simp [hfind, entP]
                unfold Oper.wp execOp
                simp only [ho, Sem.run_bind, hrun, Sem.run_pure, Result.andThen_ok]
                exact ⟨g, h.val hd hm ⟨_, rfl, rfl, fun j u x hu hx => by
                  match j with
                  | 0 => cases hu; cases hx; exact RD.int _ _
                  | 1 => cases hu; cases hx; rfl
                  | j + 2 => cases hx⟩ (fun v hv => by
                  simp at hv
                  rcases hv with rfl | rfl
                  · trivial
                  · exact hlow p hpl)⟩
              · cases hz
            · cases hz
          · cases hz
        · cases hz
      · cases hz
    · cases hz
  · cases hz
end
end Zed
