/- Texts ZedKc of our own machine for the walk of WholeChallenges, one behind the other. -/
import Derived.Test.YtiammpabkpoidaaGreatW03
namespace Zed
open Go
set_option linter.unusedVariables false
set_option linter.unusedSimpArgs false

structure Rw where
  e : TypeId
  T : K
  xs : List T.den
noncomputable def runAt (live : Nat → Option Ow) (bx : Nat → Option (List Z1)) (l : Nat) : Option Rw :=
  match live l, bx l with
  | some ⟨e, 2⟩, some [.run T xs] => some ⟨e, T, xs⟩
  | _, _ => none
noncomputable def strsZ : List Z1 → Option (List ByteArray)
  | [] => some []
  | .d (.str s) :: r => (strsZ r).map fun l => s :: l
  | _ => none
noncomputable def pixZ (cs : List Z1) (n i : Nat) : Option X :=
  match intsZ cs with
  | some (k, ns) => if ns.length = n then some (.int k (ns.getD i 0)) else none
  | none => match strsZ cs with
    | some ss => if ss.length = n then some (.str (ss.getD i ByteArray.empty)) else none
    | none => none
noncomputable def setPix (cs : List Z1) (n i : Nat) (x : X) : Option (List Z1) :=
  match intsZ cs, x with
  | some (k, ns), .int k' y => if k' = k ∧ ns.length = n then some ((List.range n).map fun j => .d (.int k (if j = i then y else ns.getD j 0))) else none
  | _, _ => none

noncomputable def rowOp (tab : Tab) (base : Nat) (mk : Bool) (live : Nat → Option Ow) (bx : Nat → Option (List Z1)) (ev : Operand → Option V1) (op : Op) : Option (Option Stp) :=
  match op with
  | .call ⟨.builtin .len, args, ats⟩ => match args.toList, ats.toList with
    | [x], t :: _ => match ev x with
      | some (.c (.row l T)) => some (match (tlook tab t).map TyI.ty, runAt live bx l with
        | some (.slice _), some r => some ⟨.one (.c (.d (.int .i64 r.xs.length))), Eff.no, [l], none⟩
        | _, _ => none)
      | _ => none
    | _, _ => none
  | .indexAddr t x ix => match ev x with
    | some (.c (.row l T)) => some (match (tlook tab t).map TyI.ty, (ev ix).bind intZ, runAt live bx l with
      | some (.slice e), some i, some r => match tlook tab e with
        | some ei => if r.T.size = ei.size then some ⟨.one (.c (.pel l r.T i.toNat 0)), Eff.no, [l], cp (0 ≤ i ∧ i < r.xs.length)⟩ else none
        | none => none
      | _, _, _ => none)
    | _ => none
  | .load t x => match ev x with
    | some (.c (.pel l T q o)) => some (match tlook tab t, runAt live bx l with
      | some i, some r => if T.size = r.T.size then (readZ i (((r.T.row (r.xs.getD q r.T.dflt)).drop o).map Z1.d)).map fun v => ⟨.one v, Eff.no, [l], none⟩ else none
      | _, _ => none)
    | some (.c (.pix id o n q)) => some (match tlook tab t, bx id with
      | some i, some cs => if plainB cs = true ∧ i.ty.isAgg = false then (pixZ ((cs.drop o).take n) n q).map fun d => ⟨.one (.c (.d d)), Eff.no, [id], none⟩ else none
      | _, _ => none)
    | _ => none
  | .store t x y => match ev x with
    | some (.c (.pel l T q o)) => some (match tlook tab t, runAt live bx l, (ev y).bind (fun v => toD v.cells) with
      | some i, some r, some ds => if (T.size = r.T.size ∧ ds.length = i.size) ∧ o + i.size ≤ r.T.size then
          match r.T.unrow ((r.T.row (r.xs.getD q r.T.dflt)).take o ++ ds ++ (r.T.row (r.xs.getD q r.T.dflt)).drop (o + i.size)) with
          | some (z, []) => some ⟨.no, ⟨[], [], [(l, [.run r.T (r.xs.set q z)])]⟩, [l], none⟩
          | _ => none
        else none
      | _, _, _ => none)
    | some (.c (.pix id o n q)) => some (match tlook tab t, bx id, ev y with
      | some i, some cs, some (.c (.d x)) => if (plainB cs = true ∧ i.size = 1) ∧ o + n ≤ cs.length then
          (setPix ((cs.drop o).take n) n q x).bind fun ds => if plainB (cs.take o ++ ds ++ cs.drop (o + n)) = true then some ⟨.no, ⟨[], [], [(id, cs.take o ++ ds ++ cs.drop (o + n))]⟩, [id], none⟩ else none
        else none
      | _, _, _ => none)
    | _ => none
  | .call ⟨.builtin .append, args, ats⟩ => match args.toList, ats.toList with
    | [x, y], [t, t'] => match (tlook tab t').map TyI.ty with
      | some .str => some (match (tlook tab t).map TyI.ty, ev x, ev y with
        | some (.slice e), some vx, some (.c (.d (.str b))) => match tlook tab e with
          | some i => if i.size = 1 then match vx with
              | .c (.own l (.int .u8) xs) => match live l with
                | some ⟨e', k⟩ => if e' = e then some ⟨.one (.c (.own base (.int .u8) (xs ++ bytesK b))), ⟨[l], [(base, ⟨e, 0⟩)], []⟩, [l], cp (xs.length + (bytesOf b).length ≤ maxLen ∧ (xs.length + (bytesOf b).length) * i.bytes ≤ 140737488355328)⟩ else none
                | none => none
              | .c (.d (.sl .unit [])) => some ⟨.one (.c (.own base (.int .u8) (bytesK b))), ⟨[], [(base, ⟨e, 0⟩)], []⟩, [], cp ((bytesOf b).length ≤ maxLen ∧ (bytesOf b).length * i.bytes ≤ 140737488355328)⟩
              | _ => none
            else none
          | none => none
        | _, _, _ => none)
      | _ => match ev x with
        | some (.c (.row l T)) => some (if t = t' then match (tlook tab t).map TyI.ty, runAt live bx l, (ev y).bind V1.asD with
          | some (.slice e), some r, some (.sl T' ys) => match tlook tab e, K.cast r.T T' ys with
            | some i, some zs => if r.e = e ∧ 0 < r.T.size ∧ r.T.size = i.size then some ⟨.one (.c (.row base r.T)), ⟨[l], [(base, ⟨e, 2⟩)], [(base, [.run r.T (r.xs ++ zs)])]⟩, [l], cp (r.xs.length + zs.length ≤ maxLen ∧ (r.xs.length + zs.length) * i.bytes ≤ 140737488355328)⟩ else none
            | _, _ => none
          | _, _, _ => none else none)
        | some (.c (.d (.sl .unit []))) => if mk then some (if t = t' then match (tlook tab t).map TyI.ty, (ev y).bind V1.asD with
          | some (.slice e), some (.sl T' ys) => match tlook tab e with
            | some i => if 0 < T'.size ∧ T'.size = i.size then some ⟨.one (.c (.row base T')), ⟨[], [(base, ⟨e, 2⟩)], [(base, [.run T' ys])]⟩, [], cp (ys.length ≤ maxLen ∧ ys.length * i.bytes ≤ 140737488355328)⟩ else none
            | none => none
          | _, _ => none else none) else none
        | _ => none
    | _, _ => none
  | .convert src dst x => match (tlook tab src).map TyI.ty, (tlook tab dst).map TyI.ty with
    | some .str, some (.slice e) => some (match ev x, (tlook tab e).map TyI.ty with
      | some (.c (.d (.str s))), some (.int .u8) => some ⟨.one (.c (.d (.sl (.int .u8) (bytesK s)))), Eff.no, [], none⟩
      | _, _ => none)
    | some (.slice e), some .str => match ev x with
      | some (.c (.row l T)) => some (match (tlook tab e).map TyI.ty, runAt live bx l with
        | some (.int .u8), some ⟨_, .int .u8, xs⟩ => some ⟨.one (.c (.d (.str (strOfNums xs)))), Eff.no, [l], none⟩
        | _, _ => none)
      | _ => none
    | _, _ => none
  | .makeSlice t x y => if mk then some (match (tlook tab t).map TyI.ty, (ev x).bind intZ, (ev y).bind intZ with
    | some (.slice e), some n, some m => match tlook tab e with
      | some i => match i.k with
        | some T => match T.unrow i.zero with
          | some (z, []) => if 0 < i.size ∧ T.size = i.size then some ⟨.one (.c (.row base T)), ⟨[], [(base, ⟨e, 2⟩)], [(base, [.run T (List.replicate n.toNat z)])]⟩, [], cp ((n = m ∧ 0 ≤ n) ∧ (n.toNat * i.size ≤ 16777216 ∧ n.toNat * i.bytes ≤ 16777216))⟩ else none
          | _ => none
        | none => none
      | none => none
    | _, _, _ => none) else none
  | .buildSlice t len ps => if mk then (match len, ps.toList with
    | 0, [] => some (match (tlook tab t).map TyI.ty with
      | some (.slice e) => match tlook tab e with
        | some i => match i.k with
          | some T => if 0 < i.size ∧ T.size = i.size then some ⟨.one (.c (.row base T)), ⟨[], [(base, ⟨e, 2⟩)], [(base, [.run T []])]⟩, [], none⟩ else none
          | none => none
        | none => none
      | _ => none)
    | _, _ => none) else none
  | _ => none

theorem runAt_some {live : Nat → Option Ow} {bx : Nat → Option (List Z1)} {l : Nat} {r : Rw} (h : runAt live bx l = some r) : live l = some ⟨r.e, 2⟩ ∧ bx l = some [.run r.T r.xs] := by
  unfold runAt at h
  split at h
  · rename_i e T xs h1 h2; cases h; exact ⟨h1, h2⟩
  · cases h

section
variable {P : Program} {tab : Tab} {E : Ent} {g : G} {s : S} {a : Act} {W W' : World} {F : Nat → Nat → Prop}

theorem strsZ_get : ∀ {cs : List Z1} {ss : List ByteArray}, strsZ cs = some ss → ∀ j, j < ss.length → cs[j]? = some (.d (.str (ss.getD j ByteArray.empty)))
  | [], ss, h, j, hj => by simp [strsZ] at h; subst h; simp at hj
  | z :: r, ss, h, j, hj => by
    unfold strsZ at h
    split at h
    · rename_i heq; cases heq
    · rename_i s0 r' heq
      cases heq
      obtain ⟨l, h1, rfl⟩ := omap h
      cases j with
      | zero => rfl
      | succ j => simpa using strsZ_get h1 j (by simpa using hj)
    · cases h
theorem intsZ_get {cs : List Z1} {k : IntKind} {ns : List Int} (h : intsZ cs = some (k, ns)) (j : Nat) (hj : j < ns.length) : cs[j]? = some (.d (.int k (ns.getD j 0))) := by
  obtain ⟨t, ht⟩ := intsZ_drop h j hj
  have := congrArg List.head? ht
  rw [List.head?_drop] at this
  exact this
theorem pixZ_get {cs : List Z1} {n i : Nat} {d : X} (h : pixZ cs n i = some d) (hi : i < n) : cs[i]? = some (.d d) := by
  unfold pixZ at h
  split at h
  · rename_i k ns hk
    split at h
    · rename_i hl; cases h; exact intsZ_get hk i (by omega)
    · cases h
  · split at h
    · rename_i ss hs
      split at h
      · rename_i hl; cases h; exact strsZ_get hs i (by omega)
      · cases h
    · cases h
theorem setPix_get {cs ds : List Z1} {n i : Nat} {x : X} (h : setPix cs n i x = some ds) (hi : i < n) : ds.length = n ∧ ds[i]? = some (.d x) ∧ ∀ j, j ≠ i → j < n → ds[j]? = cs[j]? := by
  unfold setPix at h
  split at h
  · rename_i k ns k' y hk
    split at h
    · rename_i hc
      obtain ⟨rfl, hl⟩ := hc
      cases h
      refine ⟨by simp, by simp [hi], fun j hj hjn => ?_⟩
      rw [intsZ_get hk j (by omega)]
      simp [hjn, hj]
    · cases h
  · cases h

theorem row_get {T : K} {x : T.den} {o j : Nat} {d : X} (h : ((T.row x).drop o)[j]? = some d) : o + j < T.size ∧ (T.rrow x)[o + j]? = some d.raw := by
  rw [List.getElem?_drop] at h
  have hl : (T.row x).length = T.size := by have := congrArg List.length (K.row_raw T x); rw [List.length_map, K.rrow_length] at this; exact this
  refine ⟨?_, ?_⟩
  · have := (List.getElem?_eq_some_iff.1 h).1; omega
  · rw [← K.row_raw, List.getElem?_map, h]; rfl

/-- The place of an element, in the world. -/
theorem AI.elem (h : AI P E g s a W) {l : Nat} {r : Rw} (hr : runAt s.live s.bx l = some r) {T : K} {q o : Nat} {v : Value} (hv : RC W g v (.pel l T q o)) (hT : T.size = r.T.size) :
    ∃ b cap cur, q < r.xs.length ∧ v = .pointer (some ⟨b, q * r.T.size + o, none⟩) ∧ g.ω l = .slice (some ⟨b, 0, none⟩) r.xs.length cap ∧ W.heap[b]? = some (.cells cur r.e (0, 0)) ∧ Rel2 (RD W g.F) (cur.toList.take (r.xs.length * r.T.size)) (r.xs.flatMap r.T.rrow) ∧
      r.xs.length ≤ cap ∧ cur.size = cap * r.T.size ∧ 0 < r.T.size := by
  obtain ⟨h1, h2⟩ := runAt_some hr
  obtain ⟨b, N, cap, q1, q2, q3⟩ := hv
  rcases h.rowIs h1 h2 with ⟨e, _⟩ | ⟨⟨p1, p2⟩, b', cap', cur, r1, r2, r3, r4, r5, r6, r7⟩
  · rw [q1] at e; cases e
  · rw [q1] at r1
    simp only [Value.slice.injEq, Option.some.injEq, Addr.mk.injEq] at r1
    obtain ⟨⟨rfl, _, _⟩, rfl, rfl⟩ := r1
    exact ⟨b, cap, cur, q2, by rw [q3, hT], q1, r2, r3, r4, by rw [r6, p2], p1⟩

theorem AI.rowVal (h : AI P E g s a W) {l : Nat} {r : Rw} (hr : runAt s.live s.bx l = some r) {T : K} {v : Value} (hv : RC W g v (.row l T)) :
    g.ω l = v ∧ ((v = .slice none 0 0 ∧ r.xs = []) ∨ ((0 < r.T.size ∧ r.T.size = P.cellsOf r.e) ∧ ∃ b cap cur, v = .slice (some ⟨b, 0, none⟩) r.xs.length cap ∧ W.heap[b]? = some (.cells cur r.e (0, 0)) ∧ Rel2 (RD W g.F) (cur.toList.take (r.xs.length * r.T.size)) (r.xs.flatMap r.T.rrow) ∧
      r.xs.length ≤ cap ∧ cap ≤ maxLen ∧ cur.size = cap * r.T.size ∧ ∀ o, ¬ g.F b o)) := by
  obtain ⟨h1, h2⟩ := runAt_some hr
  obtain ⟨e, _⟩ := hv
  refine ⟨e, ?_⟩
  rw [← e]
  rcases h.rowIs h1 h2 with h3 | ⟨⟨p1, p2⟩, h3⟩
  · exact .inl h3
  · refine .inr ⟨⟨p1, p2⟩, ?_⟩
    rw [p2]
    rw [p2] at h3
    exact h3

theorem own_shape {v : Value} {e : TypeId} {k : Nat} {i : TyI} (hi : TyOk P e i) {T : K} (hT : 0 < T.size ∧ T.size = i.size) {xs : List T.den} (ho : OwnV P W F v ⟨e, k⟩) (hr : RD W F v (X.sl T xs).raw) :
    ∃ old, OwnShape W e i.size v xs.length old ∧ Rel2 (RD W F) old (xs.flatMap T.rrow) := by
  have hcz : P.cellsOf e = i.size := hi.cells
  rcases ho with ⟨rfl, _⟩ | ⟨g0, n, cap, cur, fr, rfl, hg0, hnc, hcm, hcs, _, _, hfr, _⟩
  · have h0 : xs.length = 0 := by
      rcases Nat.eq_zero_or_pos xs.length with h0 | h0
      · exact h0
      · obtain ⟨b, o, cap, e, _⟩ := hr.toFlat (by omega); cases e
    have hx : xs = [] := List.eq_nil_of_length_eq_zero h0
    subst hx
    exact ⟨[], .inl ⟨rfl, rfl⟩, ⟨rfl, by simp⟩⟩
  · have hn : n = xs.length := by
      have hr' : RD W F _ (.sl T.size (xs.map T.rrow)) := hr
      obtain ⟨A, m, c, e, hm⟩ := hr'.sl_len
      rw [List.length_map] at hm
      cases e; exact hm
    subst hn
    refine ⟨cur.toList.take (xs.length * i.size), .inr ⟨g0, cap, cur, fr, rfl, hg0, hnc, hcm, by rw [← hcz]; exact hcs, rfl, hfr⟩, ?_⟩
    by_cases h0 : xs.length = 0
    · have hx : xs = [] := List.eq_nil_of_length_eq_zero h0
      subst hx
      exact ⟨by simp, by simp⟩
    · obtain ⟨b, o, c, e, _, vals, q1, q2⟩ := hr.toFlat h0
      cases e
      have hcz' : cur.size = cap * i.size := by rw [← hcz]; exact hcs
      have hle : xs.length * i.size ≤ cur.size := by rw [hcz']; exact Nat.mul_le_mul_right _ hnc
      refine ⟨by rw [flat_len, hT.2]; simp; omega, fun j u d h1 h2 => ?_⟩
      have hj : j < xs.length * i.size := by
        have := (List.getElem?_eq_some_iff.1 h1).1
        simp at this; omega
      rw [List.getElem?_take_of_lt hj, Array.getElem?_toList] at h1
      have hjv : j < vals.length := by rw [q2.1, flat_len, hT.2]; exact hj
      have := q1 j _ (List.getElem?_eq_getElem hjv)
      simp only [World.cell?, hg0, Nat.zero_add] at this
      rw [h1] at this
      cases this
      exact q2.2 j _ d (List.getElem?_eq_getElem hjv) h2

/-- New memory that is data at once. -/
theorem AI.fresh (h : AI P E g s a W) {dst : Option Nat} {v : Value} {x : X} {n' : Nat → Prop} {b m : Nat} (hd : ∀ d, dst = some d → d < E.nt) (hm : ∀ k, s.us k → n' k) (hg : Goes W W' (fun _ => False)) (hb1 : W.heap.size ≤ b) (hb2 : b < W'.heap.size)
    (hr : Keeps g.F (fun k o => g.F k o ∨ (k = b ∧ o < m)) W W' → RD W' (fun k o => g.F k o ∨ (k = b ∧ o < m)) v x.raw) :
    ∃ g', AI P E g' (s.go dst (.one (.c (.d x))) Eff.no n') (a.put dst v) W' := by
  have hk : Keeps g.F (fun k o => g.F k o ∨ (k = b ∧ o < m)) W W' := Keeps.of_goes hg (fun k o hf => ⟨h.b.fz k o hf, id⟩) (fun _ _ => .inl)
  have hF : ∀ k o, (g.F k o ∨ (k = b ∧ o < m)) → g.F k o ∨ ((False ∨ W.heap.size ≤ k) ∧ k < W'.heap.size) := fun k o hf => hf.imp id (fun q => ⟨.inr (by rw [q.1]; exact hb1), by rw [q.1]; exact hb2⟩)
  refine ⟨⟨fun k o => g.F k o ∨ (k = b ∧ o < m), g.ρ, g.ω⟩, h.step hd hm hk (fun _ _ => rfl) (fun _ _ => rfl) (h.b.goes hg (fun _ => False.elim) hk hF)
    (h.h.goes (n := s.us) hg hk (fun k o hf => (hF k o hf).imp id (fun q => q.1)) (fun _ _ => rfl) (fun _ _ => rfl) (fun l e hl => ?_) (fun i c hi => ⟨(h.boxLow i c (bc_some hi).1).1, hi, (h.boxLow i c (bc_some hi).1).2, id⟩))
    (h.r.goes (n := s.us) h.h hg hk (fun _ _ => rfl) (fun i T xs e q1 q2 _ => ?_)) ?_ ?_ (hr hk) trivial⟩
  · have hl : s.live l = some e := by simpa [Eff.lv, Eff.no, look] using hl
    exact ⟨h.liveLow l e hl, hl, fun _ _ => id⟩
  · have q2 : s.live i = some e := by simpa [Eff.lv, Eff.no, look] using q2
    exact ⟨(h.boxLow i _ q1).1, q1, q2, fun _ _ => id⟩
  · intro l e hl
    exact hm l (h.liveLow l e (by simpa [Eff.lv, Eff.no, look] using hl))
  · intro i c hi
    obtain ⟨q1, q2⟩ := h.boxLow i c hi
    exact ⟨hm i q1, fun z hz => Z1.below_mono hm (q2 z hz)⟩
end
end Zed
