/- ZED, eleventh text: what an operation does, all but calls. -/
import Derived.Test.YtakamchmiakicaaDoorZedJ
import Derived.Laws.MakeOwn
namespace Zed
open Go
set_option linter.unusedVariables false
set_option linter.unusedSimpArgs false

/-- A step: the slot's value, what it does to the memory, what it reads there, what must hold. -/
structure Stp where
  z : Z
  e : Eff
  rd : List Nat
  C : Option Prop

def toD : List Z1 → Option (List X)
  | [] => some []
  | z :: r => match z.asD, toD r with
    | some d, some l => some (d :: l)
    | _, _ => none
def toDs : List (Nat × List Z1) → Option (List (Nat × List X))
  | [] => some []
  | (i, cs) :: r => match toD cs, toDs r with
    | some ds, some l => some ((i, ds) :: l)
    | _, _ => none

/-- A row's elements out of its cells. -/
def chunks (len size : Nat) (cs : List X) : List (List X) := (List.range len).map fun i => (cs.drop (i * size)).take size

def unrows (T : K) : List (List X) → Option (List T.den)
  | [] => some []
  | c :: r => match T.unrow c, unrows T r with
    | some (x, []), some l => some (x :: l)
    | _, _ => none
def rdKeys (ev : Operand → Option V1) : Op → List Nat
  | .load _ x => match ev x with
    | some v => v.keys
    | none => []
  | _ => []

def effOp (tab : Tab) (base : Nat) (live : Nat → Option Ow) (bx : Nat → Option (List Z1)) (ev : Operand → Option V1) (op : Op) : Option Stp :=
  match op with
  | .alloc t => (look tab t).map fun i => ⟨.one (.c (.ptr base 0)), ⟨[], [], [(base, i.zero.map Z1.d)]⟩, [], none⟩
  | .box _ x => (ev x).bind fun v => if plainB v.cells then some ⟨.one (.c (.ptr base 0)), ⟨[], [], [(base, v.cells)]⟩, [], none⟩ else none
  | .store t a x => match look tab t, ev a, ev x with
    | some i, some (.c (.ptr id o)), some v => (bx id).bind fun cs =>
      if v.cells.length = i.size ∧ plainB cs = true ∧ plainB (cs.take o ++ v.cells ++ cs.drop (o + i.size)) = true then some ⟨.no, ⟨[], [], [(id, cs.take o ++ v.cells ++ cs.drop (o + i.size))]⟩, [id], some (o + i.size ≤ cs.length)⟩ else none
    | _, _, _ => none
  | .buildSlice t len ps => match (look tab t).map TyI.ty with
    | some (.slice e) => match look tab e, (partsZ ev ps.toList).bind toDs with
      | some i, some l => match i.k with
        | some T => if len * i.size ≤ 16777216 ∧ 0 < i.size ∧ T.size = i.size then
            (fillD (fun q => some (q * i.size, i.size)) (List.replicate len i.zero).flatten l).bind fun cs => (unrows T (chunks len i.size cs)).map fun xs => ⟨.one (.c (.own base T xs)), ⟨[], [(base, ⟨e, 1⟩)], []⟩, [], none⟩
          else none
        | none => none
      | _, _ => none
    | _ => none
  | .makeSlice t x y => match (look tab t).map TyI.ty, (ev x).bind intZ, (ev y).bind intZ with
    | some (.slice e), some n, some m => match look tab e with
      | some i => match i.k with
        | some T => if (n = m ∧ 0 ≤ n) ∧ (n.toNat * i.size ≤ 16777216 ∧ n.toNat * i.bytes ≤ 16777216) ∧ 0 < i.size ∧ T.size = i.size then
            (unrows T (chunks n.toNat i.size (List.replicate n.toNat i.zero).flatten)).map fun xs => ⟨.one (.c (.own base T xs)), ⟨[], [(base, ⟨e, 1⟩)], []⟩, [], none⟩
          else none
        | none => none
      | none => none
    | _, _, _ => none
  | .convert src dst x => match (look tab src).map TyI.ty, (look tab dst).map TyI.ty with
    | some (.slice e), some (.slice _) => if src = dst then match (look tab e).map TyI.ty, ev x with
      | some (.int .u8), some (.c (.own l T xs)) => match live l with
        | some ⟨e', 1⟩ => if e' = e then some ⟨.one (.c (.own base T xs)), ⟨[l], [(base, ⟨e, 1⟩)], []⟩, [l], none⟩ else none
        | _ => none
      | _, _ => none else none
    | _, _ => (valOp tab bx ev (.convert src dst x)).map fun p => ⟨.one p.1, Eff.no, [], p.2⟩
  | .call ⟨.builtin .append, args, ats⟩ => match args.toList, ats.toList with
    | [x, y], [t, t'] => if t = t' then match (look tab t).map TyI.ty, ev x, (ev y).bind V1.asD with
      | some (.slice e), some vx, some (.sl T' ys) => match look tab e with
        | some i =>
            match vx with
            | .c (.own l T xs) => match live l, K.cast T T' ys with
              | some ⟨e', _⟩, some zs => if (0 < T.size ∧ T.size = i.size) ∧ e' = e then some ⟨.one (.c (.own base T (xs ++ zs))), ⟨[l], [(base, ⟨e, 0⟩)], []⟩, [l], some (xs.length + zs.length ≤ maxLen ∧ (xs.length + zs.length) * i.bytes ≤ 140737488355328)⟩ else none
              | _, _ => none
            | .c (.d (.sl .unit [])) => if 0 < T'.size ∧ T'.size = i.size then some ⟨.one (.c (.own base T' ys)), ⟨[], [(base, ⟨e, 0⟩)], []⟩, [], some (ys.length ≤ maxLen ∧ ys.length * i.bytes ≤ 140737488355328)⟩ else if T' = .unit then some ⟨.one vx, Eff.no, [], none⟩ else none
            | _ => none
        | none => none
      | _, _, _ => none else none
    | _, _ => none
  | .call ⟨.builtin .len, args, ats⟩ => (valOp tab bx ev (.call ⟨.builtin .len, args, ats⟩)).map fun p => ⟨.one p.1, Eff.no, [], p.2⟩
  | .call ⟨.builtin .min, args, ats⟩ => (valOp tab bx ev (.call ⟨.builtin .min, args, ats⟩)).map fun p => ⟨.one p.1, Eff.no, [], p.2⟩
  | .call ⟨.builtin .max, args, ats⟩ => (valOp tab bx ev (.call ⟨.builtin .max, args, ats⟩)).map fun p => ⟨.one p.1, Eff.no, [], p.2⟩
  | .call _ => none
  | op => (valOp tab bx ev op).map fun p => ⟨.one p.1, Eff.no, rdKeys ev op, p.2⟩

section
variable {P : Program} {tab : Tab} {E : Ent} {g : G} {s : S} {a : Act} {W : World}

/-- Cells that read as typed data. -/
abbrev RX (W : World) (F : Nat → Nat → Prop) (v : Value) (d : X) : Prop := RD W F v d.raw

theorem toD_rd : ∀ (cs : List Z1) (ds : List X), toD cs = some ds → ∀ vs, RCs W g vs cs → Rel2 (RX W g.F) vs ds
  | [], ds, h, vs, hr => by simp [toD] at h; subst h; exact ⟨hr.1, by simp⟩
  | z :: r, ds, h, vs, hr => by
    simp only [toD] at h
    split at h
    · rename_i d l hd hl
      cases h
      cases vs with
      | nil => have := hr.1; simp at this
      | cons v vs =>
        have ih := toD_rd r l hl vs ⟨by have := hr.1; simpa using this, fun j u c h1 h2 => hr.2 (j + 1) u c h1 h2⟩
        refine ⟨by have := ih.1; simp [this], fun j u c h1 h2 => ?_⟩
        cases j with
        | zero => simp at h1 h2; subst h1; subst h2; exact Z1.asD_rd (hr.2 0 _ _ rfl rfl) hd
        | succ j => exact ih.2 j u c (by simpa using h1) (by simpa using h2)
    · cases h

theorem toDs_rd : ∀ (l : List (Nat × List Z1)) (m : List (Nat × List X)), toDs l = some m → l.length = m.length ∧ ∀ (j : Nat) (p : Nat × List X), m[j]? = some p → ∃ q, l[j]? = some q ∧ q.1 = p.1 ∧ toD q.2 = some p.2
  | [], m, h => by simp [toDs] at h; subst h; simp
  | (i, cs) :: r, m, h => by
    simp only [toDs] at h
    split at h
    · rename_i ds l hd hl
      cases h
      obtain ⟨h1, h2⟩ := toDs_rd r l hl
      refine ⟨by simp [h1], fun j p hp => ?_⟩
      cases j with
      | zero => simp at hp; subst hp; exact ⟨(i, cs), rfl, rfl, hd⟩
      | succ j => exact h2 j p (by simpa using hp)
    · cases h

theorem RD.nil_any {F : Nat → Nat → Prop} {v : Value} {rows : List (List D)} (h : RD W F v (.sl 0 rows)) (n : Nat) : v = .slice none 0 0 ∧ rows = [] ∧ RD W F v (.sl n []) := by
  cases h with
  | slNil => exact ⟨rfl, rfl, .slNil n⟩
  | slZ _ _ h0 => exact absurd h0 (by omega)
  | sl _ _ _ _ _ _ _ _ _ h0 => exact absurd h0 (by omega)

theorem cast_rd {F : Nat → Nat → Prop} {v : Value} {T T' : K} {ys : List T'.den} {zs : List T.den} (h : RD W F v (X.sl T' ys).raw) (hc : K.cast T T' ys = some zs) : RD W F v (X.sl T zs).raw := by
  unfold K.cast at hc
  split at hc
  · rename_i he
    subst he
    cases hc
    exact h
  · split at hc
    · cases hc
      exact (RD.nil_any h T.size).2.2
    · cases hc

/-- Rel2 of parts. -/
theorem Rel2.cons_inv {α : Type} {R : Value → α → Prop} {vs : List Value} {c : α} {cs : List α} (h : Rel2 R vs (c :: cs)) : ∃ v vs', vs = v :: vs' ∧ R v c ∧ Rel2 R vs' cs := by
  cases vs with
  | nil => have := h.1; simp at this
  | cons v vs => exact ⟨v, vs, rfl, h.2 0 v c rfl rfl, by have := h.1; simpa using this, fun j u z h1 h2 => h.2 (j + 1) u z h1 h2⟩
theorem Rel2.cons_mk {α : Type} {R : Value → α → Prop} {v : Value} {vs : List Value} {c : α} {cs : List α} (h : R v c) (hr : Rel2 R vs cs) : Rel2 R (v :: vs) (c :: cs) :=
  ⟨by simp [hr.1], fun j u z h1 h2 => by
    cases j with
    | zero => simp at h1 h2; subst h1; subst h2; exact h
    | succ j => exact hr.2 j u z (by simpa using h1) (by simpa using h2)⟩
theorem Rel2.append_mk {α : Type} {R : Value → α → Prop} : ∀ {vs us : List Value} {cs ds : List α}, Rel2 R vs cs → Rel2 R us ds → Rel2 R (vs ++ us) (cs ++ ds)
  | [], us, cs, ds, h, h' => by
    have : cs = [] := List.eq_nil_of_length_eq_zero (by have := h.1; simpa using this.symm)
    subst this; exact h'
  | v :: vs, us, cs, ds, h, h' => by
    cases cs with
    | nil => have := h.1; simp at this
    | cons c cs =>
      obtain ⟨v', vs', e, h1, h2⟩ := Rel2.cons_inv h
      cases e
      exact Rel2.cons_mk h1 (Rel2.append_mk h2 h')

theorem unrow_rd {F : Nat → Nat → Prop} : ∀ (T : K) (l : List X) (x : T.den) (l' : List X), T.unrow l = some (x, l') → ∀ vs, Rel2 (RX W F) vs l → ∃ vs1 vs2, vs = vs1 ++ vs2 ∧ Rel2 (RD W F) vs1 (T.rrow x) ∧ Rel2 (RX W F) vs2 l'
  | .unit, l, x, l', h, vs, hr => by
    simp only [K.unrow, Option.some.injEq, Prod.mk.injEq] at h
    obtain ⟨_, rfl⟩ := h
    exact ⟨[], vs, rfl, ⟨rfl, by simp⟩, hr⟩
  | .int k, l, x, l', h, vs, hr => by
    simp only [K.unrow] at h
    split at h
    · split at h
      · rename_i hk
        subst hk
        cases h
        obtain ⟨v, vs', rfl, h1, h2⟩ := Rel2.cons_inv hr
        exact ⟨[v], vs', rfl, Rel2.cons_mk h1 ⟨rfl, by simp⟩, h2⟩
      · cases h
    · cases h
  | .bool, l, x, l', h, vs, hr => by
    simp only [K.unrow] at h
    split at h
    · cases h
      obtain ⟨v, vs', rfl, h1, h2⟩ := Rel2.cons_inv hr
      exact ⟨[v], vs', rfl, Rel2.cons_mk h1 ⟨rfl, by simp⟩, h2⟩
    · cases h
  | .str, l, x, l', h, vs, hr => by
    simp only [K.unrow] at h
    split at h
    · cases h
      obtain ⟨v, vs', rfl, h1, h2⟩ := Rel2.cons_inv hr
      exact ⟨[v], vs', rfl, Rel2.cons_mk h1 ⟨rfl, by simp⟩, h2⟩
    · cases h
  | .slice T, l, x, l', h, vs, hr => by
    simp only [K.unrow] at h
    split at h
    · rename_i T' xs r
      obtain ⟨ys, hc, e⟩ := omap h
      cases e
      obtain ⟨v, vs', rfl, h1, h2⟩ := Rel2.cons_inv hr
      exact ⟨[v], vs', rfl, Rel2.cons_mk (cast_rd h1 hc) ⟨rfl, by simp⟩, h2⟩
    · cases h
  | .pair A B, l, (a, b), l', h, vs, hr => by
    simp only [K.unrow] at h
    split at h
    · rename_i a' l1 h1
      split at h
      · rename_i b' l2 h2
        cases h
        obtain ⟨v1, v2, rfl, q1, q2⟩ := unrow_rd A l a l1 h1 vs hr
        obtain ⟨v3, v4, rfl, q3, q4⟩ := unrow_rd B l1 b l' h2 v2 q2
        exact ⟨v1 ++ v3, v4, by simp, Rel2.append_mk q1 q3, q4⟩
      · cases h
    · cases h
  | .tree, l, x, l', h, vs, hr => by
    simp only [K.unrow] at h
    split at h
    · cases h
      obtain ⟨v, vs', rfl, h1, h2⟩ := Rel2.cons_inv hr
      exact ⟨[v], vs', rfl, Rel2.cons_mk h1 ⟨rfl, by simp⟩, h2⟩
    · cases h
      obtain ⟨v, vs', rfl, h1, h2⟩ := Rel2.cons_inv hr
      exact ⟨[v], vs', rfl, Rel2.cons_mk h1 ⟨rfl, by simp⟩, h2⟩
    · cases h
  | .wood, l, x, l', h, vs, hr => by
    simp only [K.unrow] at h
    split at h
    · rename_i T' xs r
      obtain ⟨ys, hc, e⟩ := omap h
      cases e
      obtain ⟨v, vs', rfl, h1, h2⟩ := Rel2.cons_inv hr
      have q : RD W F v (X.sl FK ys).raw := cast_rd h1 hc
      have e : K.rrow .wood (ys.map FT.of) = [(X.sl FK ys).raw] := congrArg (fun x => [D.sl 3 x]) (of_raw ys)
      exact ⟨[v], vs', rfl, by rw [e]; exact Rel2.cons_mk q ⟨rfl, by simp⟩, h2⟩
    · cases h

theorem valOp_wp (ht : TabOk P tab) (h : AI P E g s a W) {o : Oper} {z : V1} {C : Option Prop} (hz : valOp tab s.bx s.ev o.op = some (z, C)) (hC : holds C) {n' : Nat → Prop} (hd : ∀ d, o.dst = some d → d < E.nt) (hn : ∀ k, s.us k → n' k) {Q : Exit → Act → World → Prop} :
    o.wp P a W (fun a' W' => ∃ g', AI P E g' (s.go o.dst (.one z) Eff.no n') a' W') Q := by
  obtain ⟨v, h1, h2, h3⟩ := valOp_run ht h hz hC
  unfold Oper.wp
  rw [h1]
  exact ⟨g, h.val hd hn h2 h3⟩

/-- Cells that repeat. -/
theorem flat_get (n : Nat) (z : List X) : ∀ (q : Nat), q < n * z.length → (List.replicate n z).flatten[q]? = z[q % z.length]? := by
  induction n with
  | zero => intro q hq; omega
  | succ n ih =>
    intro q hq
    rw [List.replicate_succ, List.flatten_cons]
    rw [Nat.succ_mul] at hq
    by_cases h : q < z.length
    · rw [List.getElem?_append_left h, Nat.mod_eq_of_lt h]
    · rw [List.getElem?_append_right (by omega), ih (q - z.length) (by omega)]
      rw [show q % z.length = (q - z.length) % z.length from (Nat.mod_eq_sub_mod (by omega))]

theorem chunks_len (len size : Nat) (cs : List X) : (chunks len size cs).length = len := by simp [chunks]

/-- Elements out of cells one behind the other. -/
theorem unrows_rd {F : Nat → Nat → Prop} (T : K) (size : Nat) : ∀ (n i0 : Nat) (cs : List X) (xs : List T.den) (vs : List Value), unrows T ((List.range' i0 n).map fun i => (cs.drop (i * size)).take size) = some xs → Rel2 (RX W F) vs cs → (i0 + n) * size ≤ cs.length →
    xs.length = n ∧ ∀ (i : Nat) (h : i < xs.length), Rel2 (RD W F) ((vs.drop ((i0 + i) * size)).take size) (T.rrow xs[i])
  | 0, i0, cs, xs, vs, h, _, _ => by
    simp [unrows] at h
    subst h
    exact ⟨rfl, fun i hi => by simp at hi⟩
  | n + 1, i0, cs, xs, vs, h, hr, hle => by
    rw [List.range'_succ, List.map_cons, unrows] at h
    split at h
    · rename_i x l hx hl
      cases h
      have hvl : vs.length = cs.length := hr.1
      have hpart : Rel2 (RX W F) ((vs.drop (i0 * size)).take size) ((cs.drop (i0 * size)).take size) := by
        refine ⟨by simp [hvl], fun j u c h1 h2 => ?_⟩
        have hj : j < size := by
          rcases Nat.lt_or_ge j size with q | q
          · exact q
          · simp [List.getElem?_eq_none (show ((cs.drop (i0 * size)).take size).length ≤ j by simp; omega)] at h2
        rw [List.getElem?_take_of_lt hj, List.getElem?_drop] at h1 h2
        exact hr.2 _ u c h1 h2
      obtain ⟨v1, v2, e, q1, q2⟩ := unrow_rd T _ x [] hx _ hpart
      have hv2 : v2 = [] := List.eq_nil_of_length_eq_zero q2.1
      subst hv2
      rw [List.append_nil] at e
      obtain ⟨i1, i2⟩ := unrows_rd T size n (i0 + 1) cs l vs hl hr (by rw [show i0 + 1 + n = i0 + (n + 1) from by omega]; exact hle)
      refine ⟨by simp [i1], fun i hi => ?_⟩
      cases i with
      | zero => simp only [Nat.add_zero, List.getElem_cons_zero]; rw [e]; exact q1
      | succ i =>
        have := i2 i (by simpa using hi)
        rw [show i0 + 1 + i = i0 + (i + 1) from by omega] at this
        simpa using this
    · cases h

/-- A row that is built. -/
theorem build_wp (ht : TabOk P tab) (h : AI P E g s a W) {o : Oper} {t e : TypeId} {len : Nat} {ps : Array (Nat × Operand)} {i : TyI} {T : K} {l : List (Nat × List X)} {cs : List X} {xs : List T.den} (ho : o.op = .buildSlice t len ps) (hty : (look tab t).map TyI.ty = some (.slice e)) (hi : look tab e = some i)
    (hp : (partsZ s.ev ps.toList).bind toDs = some l) (hsmall : len * i.size ≤ 16777216) (hpos : 0 < i.size) (hTs : T.size = i.size) (hf : fillD (fun q => some (q * i.size, i.size)) (List.replicate len i.zero).flatten l = some cs) (hxs : unrows T (chunks len i.size cs) = some xs)
    {base : Nat} {n' : Nat → Prop} (hd : ∀ d, o.dst = some d → d < E.nt) (hb : ¬ s.us base) (hm : ∀ k, s.us k → n' k) (hn : n' base) {Q : Exit → Act → World → Prop} :
    o.wp P a W (fun a' W' => ∃ g', AI P E g' (s.go o.dst (.one (.c (.own base T xs))) ⟨[], [(base, ⟨e, 1⟩)], []⟩ n') a' W') Q := by
  obtain ⟨it, d, _, _, hu, hfit⟩ := und_of ht hty
  cases hfit
  have hTy := ht e i hi
  obtain ⟨j, hj, hjs, hjb, z, hz, hzs, hzl, hzc⟩ := hTy.info
  obtain ⟨lz, hlz, hl⟩ := obind hp
  obtain ⟨p1, p2, _⟩ := parts_rd h ps.toList lz hlz
  obtain ⟨d1, d2⟩ := toDs_rd lz l hl
  have hzero : Rel2 (RX W g.F) ((Array.range (len * i.size)).map (z.cells[· % z.cells.size]!)).toList (List.replicate len i.zero).flatten := by
    refine ⟨by simp [hzl], fun q u c h1 h2 => ?_⟩
    have hq : q < len * i.size := by
      rcases Nat.lt_or_ge q (len * i.size) with h0 | h0
      · exact h0
      · simp [List.getElem?_eq_none (show ((List.replicate len i.zero).flatten).length ≤ q by simp [hzl]; exact h0)] at h2
    rw [flat_get len i.zero q (by rw [hzl]; exact hq)] at h2
    have hm : q % z.cells.size < z.cells.size := Nat.mod_lt _ (by omega)
    simp only [Array.getElem?_toList, Array.getElem?_map, Array.getElem?_range, if_pos hq, Option.map_some, Option.some.injEq] at h1
    subst h1
    rw [getElem!_pos z.cells _ hm]
    refine constD_rd (hzc (q % i.size) _ c ?_ (by rw [hzl] at h2; exact h2))
    rw [Array.getElem?_toList, ← hzs, Array.getElem?_eq_getElem hm]
  obtain ⟨cells, f1, f2, f3⟩ := fill_rd (R := RX W g.F) (fun q => some (q * i.size, i.size)) l (ps.toList.map fun r => (r.1, a.eval r.2)) _ _ cs hzero (by rw [List.length_map]; omega) (fun q p u h1 h2 => by
    obtain ⟨r, q1, q2, q3⟩ := d2 q p h1
    obtain ⟨q4, q5⟩ := p2 q r u q1 h2
    exact ⟨by rw [← q2]; exact q4, toD_rd r.2 p.2 q3 _ q5⟩) hf
  have hlen : cs.length = len * i.size := by rw [f3]; simp [hzl]
  have hclen : cells.size = len * i.size := by have := f2.1; simp at this; omega
  have hrun : (Instr.buildSlice t len (ps.map fun (k, x) => (k, a.eval x))).run P W = .ok (.slice (some ⟨W.heap.size, 0, none⟩) len len) (W.alloc (.cells cells e)) := by
    have hns : ¬ len * j.size > 2 ^ 24 := by rw [hjs]; omega
    by_cases h0 : len = 0
    · subst h0
      have arr0 : ∀ f : Nat → Value, (Array.range 0).map f = #[] := fun f => by apply Array.ext <;> simp
      have hfz : Instr.fill (fun q => some (q * j.size, j.size)) #[] (ps.toList.map fun r => (r.1, a.eval r.2)) = some cells := by
        have := f1
        simp only [Nat.zero_mul, arr0] at this
        rw [hjs]; exact this
      simp only [Instr.buildSlice, run_underlying hu, Go.sizeOf, typeInfo, newRow, Sem.run_bind, Sem.run_pure, Result.andThen_ok, Nat.zero_mul, if_true, arr0]
      simp [hj]
      have e : (List.map (fun x => (x.fst, a.eval x.snd)) ps.toList) = (ps.toList.map fun r => (r.1, a.eval r.2)) := rfl
      rw [e, hfz]
      simp
    · refine run_buildSlice W t e len _ cells j z hu hj hz hns (by rw [hjs]; have := Nat.mul_pos (show 0 < len by omega) hpos; omega) ?_
      rw [hjs]
      simpa using f1
  have hmax : len ≤ maxLen := by
    have : len ≤ len * i.size := Nat.le_mul_of_pos_right _ hpos
    simp only [maxLen]; omega
  obtain ⟨g', h'⟩ := h.row (dst := o.dst) (kill := none) (Ch := fun _ => False) (W' := W.alloc (.cells cells e)) (v := .slice (some ⟨W.heap.size, 0, none⟩) len len) (e := ⟨e, 1⟩) (n := len) (T := T) (xs := xs) (base := base) (n' := n') hd hb hm hn (goes_alloc W _)
    (fun _ => False.elim) (fun _ _ => False.elim) (show (1 : Nat) ≠ 2 by decide) (.inr ⟨W.heap.size, len, cells, (0, 0), rfl, heap_alloc_new W _, Nat.le_refl _, hmax, by rw [hTy.cells]; exact hclen, .inr (Nat.le_refl _), fun o hf => by have := h.b.fz _ _ hf; omega, fun _ => rfl, .inl rfl⟩)
    (fun hk => by
      show RD _ _ _ (.sl T.size (xs.map T.rrow))
      obtain ⟨hxl, hxr⟩ := unrows_rd (W := W) (F := g.F) T i.size len 0 cs xs cells.toList (by simpa [chunks, List.range_eq_range'] using hxs) f2 (by rw [Nat.zero_add, hlen]; exact Nat.le_refl _)
      rw [hTs]
      refine RD.ofCells (vs := cells.toList) (by simp [hxl]) (Nat.le_refl _) hpos ?_ ?_ (by simp; omega) ?_
      · intro c hc
        obtain ⟨x, _, rfl⟩ := List.mem_map.1 hc
        rw [K.rrow_length, hTs]
      · intro q u hq hu
        refine ⟨by simp only [World.cell?, heap_alloc_new]; rw [← Array.getElem?_toList]; exact hu, .inr ⟨rfl, by rw [hTy.cells]; exact hq⟩⟩
      · intro i' j' u d hi' hj' hu hd'
        have hx : i' < xs.length := by omega
        have e1 : (xs.map T.rrow).getD i' [] = T.rrow xs[i'] := by simp [List.getD, List.getElem?_eq_getElem hx]
        rw [e1] at hd'
        have := (hxr i' hx).2 j' u d (by rw [List.getElem?_take_of_lt (by omega), List.getElem?_drop, Nat.zero_add]; exact hu) hd'
        exact this.keep hk)
  unfold Oper.wp execOp
  simp only [ho, Sem.run_bind, hrun, Sem.run_pure, Result.andThen_ok]
  exact ⟨g', h'⟩

/-- A row that is made. -/
theorem make_wp (ht : TabOk P tab) (h : AI P E g s a W) {o : Oper} {t e : TypeId} {x y : Operand} {c : Int} {i : TyI} {T : K} {xs : List T.den} (ho : o.op = .makeSlice t x y) (hty : (look tab t).map TyI.ty = some (.slice e)) (hi : look tab e = some i)
    (hx : (s.ev x).bind intZ = some c) (hy : (s.ev y).bind intZ = some c) (h0c : 0 ≤ c) (hsmall : c.toNat * i.size ≤ 16777216) (hbytes : c.toNat * i.bytes ≤ 16777216) (hpos : 0 < i.size) (hTs : T.size = i.size) (hxs : unrows T (chunks c.toNat i.size (List.replicate c.toNat i.zero).flatten) = some xs)
    {base : Nat} {n' : Nat → Prop} (hd : ∀ d, o.dst = some d → d < E.nt) (hb : ¬ s.us base) (hm : ∀ k, s.us k → n' k) (hn : n' base) {Q : Exit → Act → World → Prop} :
    o.wp P a W (fun a' W' => ∃ g', AI P E g' (s.go o.dst (.one (.c (.own base T xs))) ⟨[], [(base, ⟨e, 1⟩)], []⟩ n') a' W') Q := by
  obtain ⟨it, d, _, _, hu, hfit⟩ := und_of ht hty
  cases hfit
  have hTy := ht e i hi
  obtain ⟨j, hj, hjs, hjb, z, hz, hzs, hzl, hzc⟩ := hTy.info
  obtain ⟨kl, hex⟩ := h.int hx
  obtain ⟨kc, hey⟩ := h.int hy
  obtain ⟨len, rfl⟩ : ∃ q : Nat, c = (q : Int) := ⟨c.toNat, by omega⟩
  rw [Int.toNat_natCast] at hsmall hbytes hxs
  generalize hcells : (Array.range (len * i.size)).map (z.cells[· % z.cells.size]!) = cells
  have f2 : Rel2 (RX W g.F) cells.toList (List.replicate len i.zero).flatten := by
    rw [← hcells]
    refine ⟨by simp [hzl], fun q u c h1 h2 => ?_⟩
    have hq : q < len * i.size := by
      rcases Nat.lt_or_ge q (len * i.size) with h0 | h0
      · exact h0
      · simp [List.getElem?_eq_none (show ((List.replicate len i.zero).flatten).length ≤ q by simp [hzl]; exact h0)] at h2
    rw [flat_get len i.zero q (by rw [hzl]; exact hq)] at h2
    have hm : q % z.cells.size < z.cells.size := Nat.mod_lt _ (by omega)
    simp only [Array.getElem?_toList, Array.getElem?_map, Array.getElem?_range, if_pos hq, Option.map_some, Option.some.injEq] at h1
    subst h1
    rw [getElem!_pos z.cells _ hm]
    refine constD_rd (hzc (q % i.size) _ c ?_ (by rw [hzl] at h2; exact h2))
    rw [Array.getElem?_toList, ← hzs, Array.getElem?_eq_getElem hm]
  have hlen : ((List.replicate len i.zero).flatten).length = len * i.size := by simp [hzl]
  have hclen : cells.size = len * i.size := by rw [← hcells]; simp
  have hmax : len ≤ maxLen := by
    have : len ≤ len * i.size := Nat.le_mul_of_pos_right _ hpos
    simp only [maxLen]; omega
  have hrun : (Instr.makeSlice t (a.eval x) (a.eval y)).run P W = .ok (.slice (some ⟨W.heap.size, 0, none⟩) len len) (W.alloc (.cells cells e)) := by
    have hb2 : (j.bytes : Int) * (len : Int) ≤ 281474976710656 := by
      have : ((len * i.bytes : Nat) : Int) ≤ 16777216 := by omega
      rw [Int.natCast_mul, Int.mul_comm] at this
      rw [hjb]; omega
    have := run_make (P := P) W t e j z hu hj hz kl kc (len : Int) (len : Int) (by omega) (Int.le_refl _) hb2 (by simp only [maxLen] at hmax; omega)
    rw [Int.toNat_natCast, hjs] at this
    rw [hex, hey, this]
    rw [← hcells]; rfl
  obtain ⟨g', h'⟩ := h.row (dst := o.dst) (kill := none) (Ch := fun _ => False) (W' := W.alloc (.cells cells e)) (v := .slice (some ⟨W.heap.size, 0, none⟩) len len) (e := ⟨e, 1⟩) (n := len) (T := T) (xs := xs) (base := base) (n' := n') hd hb hm hn (goes_alloc W _)
    (fun _ => False.elim) (fun _ _ => False.elim) (show (1 : Nat) ≠ 2 by decide) (.inr ⟨W.heap.size, len, cells, (0, 0), rfl, heap_alloc_new W _, Nat.le_refl _, hmax, by rw [hTy.cells]; exact hclen, .inr (Nat.le_refl _), fun o hf => by have := h.b.fz _ _ hf; omega, fun _ => rfl, .inl rfl⟩)
    (fun hk => by
      show RD _ _ _ (.sl T.size (xs.map T.rrow))
      obtain ⟨hxl, hxr⟩ := unrows_rd (W := W) (F := g.F) T i.size len 0 (List.replicate len i.zero).flatten xs cells.toList (by simpa [chunks, List.range_eq_range'] using hxs) f2 (by rw [Nat.zero_add, hlen]; exact Nat.le_refl _)
      rw [hTs]
      refine RD.ofCells (vs := cells.toList) (by simp [hxl]) (Nat.le_refl _) hpos ?_ ?_ (by simp; omega) ?_
      · intro c hc
        obtain ⟨x, _, rfl⟩ := List.mem_map.1 hc
        rw [K.rrow_length, hTs]
      · intro q u hq hu
        refine ⟨by simp only [World.cell?, heap_alloc_new]; rw [← Array.getElem?_toList]; exact hu, .inr ⟨rfl, by rw [hTy.cells]; exact hq⟩⟩
      · intro i' j' u d hi' hj' hu hd'
        have hx : i' < xs.length := by omega
        have e1 : (xs.map T.rrow).getD i' [] = T.rrow xs[i'] := by simp [List.getD, List.getElem?_eq_getElem hx]
        rw [e1] at hd'
        have := (hxr i' hx).2 j' u d (by rw [List.getElem?_take_of_lt (by omega), List.getElem?_drop, Nat.zero_add]; exact hu) hd'
        exact this.keep hk)
  unfold Oper.wp execOp
  simp only [ho, Sem.run_bind, hrun, Sem.run_pure, Result.andThen_ok]
  exact ⟨g', h'⟩
end
end Zed
