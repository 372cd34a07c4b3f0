/- ZED, seventh text: parts laid together, bytes as a string, and all operations that yield a value. -/
import Derived.Test.YtakamchmiakicaaDoorZedF
import Derived.Laws.StructEq
namespace Zed
open Go
set_option linter.unusedVariables false
set_option linter.unusedSimpArgs false

section
variable {P : Program} {tab : Tab} {W : World} {F : Nat → Nat → Prop} {g : G}

theorem foldl_set_aux (off : Nat) : ∀ (vs : List Value) (k : Nat) (cells : Array Value), off + k + vs.length ≤ cells.size →
    ((vs.zipIdx k).foldl (fun cs (p : Value × Nat) => cs.setIfInBounds (off + p.2) p.1) cells).toList = cells.toList.take (off + k) ++ vs ++ cells.toList.drop (off + k + vs.length)
  | [], k, cells, h => by simp
  | v :: vs, k, cells, h => by
    simp only [List.zipIdx_cons, List.foldl_cons]
    rw [foldl_set_aux off vs (k + 1) (cells.setIfInBounds (off + k) v) (by simp at h ⊢; omega)]
    have hlt : off + k < cells.toList.length := by simp at h ⊢; omega
    simp only [Array.toList_setIfInBounds, List.length_cons]
    rw [show off + (k + 1) = off + k + 1 from by omega, List.take_add_one, List.take_set_of_le (by omega), List.getElem?_set_self (by simpa using hlt), List.drop_set_of_lt (by omega)]
    simp only [Option.toList_some, List.append_assoc, List.cons_append, List.nil_append]
    rw [show off + k + 1 + vs.length = off + k + (vs.length + 1) from by omega]


theorem fill_rd {α : Type} {R : Value → α → Prop} (place : Nat → Option (Nat × Nat)) : ∀ (l : List (Nat × List α)) (lv : List (Nat × Value)) (cells : Array Value) (cs cs' : List α), Rel2 R cells.toList cs →
    lv.length = l.length → (∀ (j : Nat) (p : Nat × List α) (q : Nat × Value), l[j]? = some p → lv[j]? = some q → p.1 = q.1 ∧ Rel2 R q.2.cells.toList p.2) →
    fillD place cs l = some cs' → ∃ cells', Instr.fill place cells lv = some cells' ∧ Rel2 R cells'.toList cs' ∧ cs'.length = cs.length
  | [], lv, cells, cs, cs', h, hl, _, hf => by
    have : lv = [] := List.eq_nil_of_length_eq_zero (by simpa using hl)
    subst this
    simp only [fillD, Option.some.injEq] at hf
    subst hf
    exact ⟨cells, rfl, h, rfl⟩
  | (i, ds) :: l, lv, cells, cs, cs', h, hl, hp, hf => by
    cases lv with
    | nil => simp at hl
    | cons q lv =>
      obtain ⟨i', v⟩ := q
      obtain ⟨hi, hr⟩ := hp 0 _ _ rfl rfl
      simp only at hi hr
      subst hi
      simp only [fillD] at hf
      split at hf
      · cases hf
      · rename_i off size hpl
        split at hf
        · rename_i hc
          have hvs : v.cells.size = size := by have := hr.1; simp at this; omega
          have hcs : cells.size = cs.length := by have := h.1; simpa using this
          have hset := foldl_set_aux off v.cells.toList 0 cells (by simp; omega)
          have hlen : v.cells.toList.length = size := by simpa using hvs
          obtain ⟨cells', h1, h2, h3⟩ := fill_rd place l lv (v.cells.zipIdx.foldl (fun cs (c, j) => cs.setIfInBounds (off + j) c) cells) (cs.take off ++ ds ++ cs.drop (off + size)) cs' (by
            have e : (v.cells.zipIdx.foldl (fun cs (c, j) => cs.setIfInBounds (off + j) c) cells).toList = cells.toList.take off ++ v.cells.toList ++ cells.toList.drop (off + size) := by
              rw [← Array.foldl_toList, Array.toList_zipIdx]
              have := hset
              rw [hlen] at this
              simpa using this
            rw [e]
            refine ⟨by simp; omega, fun j u d hj hd => ?_⟩
            by_cases h1 : j < off
            · rw [List.append_assoc, List.getElem?_append_left (by simp; omega), List.getElem?_take_of_lt h1] at hj
              rw [List.append_assoc, List.getElem?_append_left (by simp; omega), List.getElem?_take_of_lt h1] at hd
              exact h.2 j u d hj hd
            · by_cases h2 : j < off + size
              · rw [List.append_assoc, List.getElem?_append_right (by simp; omega), List.getElem?_append_left (by simp; omega)] at hj
                rw [List.append_assoc, List.getElem?_append_right (by simp; omega), List.getElem?_append_left (by simp; omega)] at hd
                have e1 : j - (List.take off cells.toList).length = j - off := by simp; omega
                have e2 : j - (List.take off cs).length = j - off := by simp; omega
                rw [e1] at hj
                rw [e2] at hd
                exact hr.2 _ u d hj hd
              · rw [List.getElem?_append_right (by simp; omega), List.getElem?_drop] at hj
                rw [List.getElem?_append_right (by simp; omega), List.getElem?_drop] at hd
                have e1 : off + size + (j - (List.take off cells.toList ++ v.cells.toList).length) = j := by simp; omega
                have e2 : off + size + (j - (List.take off cs ++ ds).length) = j := by simp; omega
                rw [e1] at hj
                rw [e2] at hd
                exact h.2 j u d hj hd) (by simpa using hl) (fun j p q h1 h2 => hp (j + 1) p q h1 h2) hf
          refine ⟨cells', ?_, h2, ?_⟩
          · simp only [Instr.fill, hpl]
            rw [if_neg (by simp only [ne_eq, gt_iff_lt, Bool.or_eq_true, decide_eq_true_eq, not_or]; constructor <;> omega)]
            exact h1
          · rw [h3]; simp; omega
        · cases hf

theorem zero_rd {t : TypeId} {i : TyI} (hi : TyOk P t i) : ∃ (j : TypeInfo) (v : Value), P.info? t = some j ∧ j.size = i.size ∧ j.zero = some v ∧ v.cells.size = i.size ∧ Rel2 (RC W g) v.cells.toList (i.zero.map Z1.d) := by
  obtain ⟨j, h1, h2, _, v, h4, h5, h6, h7⟩ := hi.info
  refine ⟨j, v, h1, h2, h4, h5, by simp; omega, fun q u d h8 h9 => ?_⟩
  rw [List.getElem?_map] at h9
  cases hz : i.zero[q]? with
  | none => rw [hz] at h9; cases h9
  | some d0 => rw [hz] at h9; cases h9; exact constD_rd (h7 q u d0 h8 hz)

theorem places_eq (ht : TabOk P tab) : ∀ (l : List Field) (pl : List (Nat × Nat)), places tab (l.map fun f => (f.offset, f.type)) = some pl → l.mapM (fun f => (P.info? f.type).map fun i => (f.offset, i.size)) = some pl
  | [], pl, h => by simpa [places] using h
  | f :: l, pl, h => by
    simp only [places, List.map_cons, List.mapM_cons] at h
    cases hf : look tab f.type with
    | none => rw [hf] at h; simp at h
    | some i =>
      rw [hf] at h
      cases hl : List.mapM (fun p : Nat × TypeId => (look tab p.2).map fun i => (p.1, i.size)) (l.map fun f => (f.offset, f.type)) with
      | none => rw [hl] at h; simp at h
      | some r =>
        rw [hl] at h
        obtain ⟨j, hj, hs, _⟩ := (ht _ _ hf).info
        have ih := places_eq ht l r hl
        simp only [List.mapM_cons, hj, ih]
        simp at h ⊢
        rw [hs]
        exact h

theorem build_run (ht : TabOk P tab) {t : TypeId} {l : List (Nat × List Z1)} {lv : Array (Nat × Value)} {cs : List Z1} (h : buildZ tab t l = some cs) (hl : lv.toList.length = l.length)
    (hp : ∀ (j : Nat) (p : Nat × List Z1) (q : Nat × Value), l[j]? = some p → lv.toList[j]? = some q → p.1 = q.1 ∧ RCs W g q.2.cells.toList p.2) :
    ∃ vs : Array Value, (Instr.build t lv).run P W = .ok (.agg vs) W ∧ RCs W g vs.toList cs := by
  unfold buildZ at h
  split at h
  · rename_i fs _ _ zero _ _ hlk
    obtain ⟨d, hd, hf⟩ := (ht t _ hlk).und
    obtain ⟨a, rfl, hm⟩ := hf
    obtain ⟨j, v, h1, h2, h3, h4, h5⟩ := zero_rd (W := W) (g := g) (ht t _ hlk)
    cases hpl : places tab fs with
    | none => rw [hpl] at h; cases h
    | some pl =>
      rw [hpl] at h
      simp only [Option.bind_some] at h
      obtain ⟨cells', q1, q2, _⟩ := fill_rd (pl[·]?) l lv.toList v.cells (zero.map Z1.d) cs h5 hl hp h
      refine ⟨cells', run_build W t lv cells' ?_, q2⟩
      have hpm := places_eq ht a.toList pl (by rw [hm]; exact hpl)
      unfold Program.built
      simp only [h1, hd, h3, hpm]
      have : (fun x : Nat => pl.toArray[x]?) = fun x : Nat => pl[x]? := by funext x; simp
      rw [this]
      exact q1
  · rename_i n e _ _ zero _ _ hlk
    obtain ⟨d, hd, hf⟩ := (ht t _ hlk).und
    cases hf
    obtain ⟨j, v, h1, h2, h3, h4, h5⟩ := zero_rd (W := W) (g := g) (ht t _ hlk)
    cases he : look tab e with
    | none => rw [he] at h; cases h
    | some ei =>
      rw [he] at h
      simp only [Option.bind_some] at h
      obtain ⟨je, hje, hse, _⟩ := (ht _ _ he).info
      obtain ⟨cells', q1, q2, _⟩ := fill_rd (fun q => some (q * ei.size, ei.size)) l lv.toList v.cells (zero.map Z1.d) cs h5 hl hp h
      refine ⟨cells', run_build W t lv cells' ?_, q2⟩
      unfold Program.built
      simp only [h1, hd, h3, hje, hse]
      exact q1
  · cases h

/-- Bytes as a string. -/
theorem run_bytes_zero {P : Program} (W : World) (src e : TypeId) (hs : P.underlying src = some (.slice e)) (he : P.underlying e = some (.int .u8)) (a : Addr) : ∀ dst, P.underlying dst = some .string →
    (convert src dst (.slice (some a) 0 0)).run P W = .ok (.string (strOfNums [])) W := by
  intro dst hd
  have hl : (loadCells a 0).run P W = .ok #[] W := by simp [loadCells, loadCellsFrom]
  rw [run_convert_bytes_string W src dst e _ 0 0 hs he hd]
  simp [Conv.bytesToString, hl]
  rfl

theorem str_run {src e dst : TypeId} (hs : P.underlying src = some (.slice e)) (he : P.underlying e = some (.int .u8)) (hd : P.underlying dst = some .string) {v : Value} {ns : List Int} (h : RD W F v (.sl 1 (ns.map fun n => [.int .u8 n]))) :
    (convert src dst v).run P W = .ok (.string (strOfNums ns)) W := by
  generalize hxs : (ns.map fun n => [D.int .u8 n]) = xs at h
  have hlen : xs.length = ns.length := by rw [← hxs]; simp
  have hget : ∀ i, i < ns.length → xs[i]? = some [.int .u8 (ns.getD i 0)] := by
    intro i hi
    rw [← hxs]
    simp [List.getD, List.getElem?_eq_getElem hi]
  cases h with
  | slNil =>
    have : ns = [] := List.eq_nil_of_length_eq_zero (by simpa using hlen.symm)
    subst this
    exact run_convert_bytes_nil W src e hs he 0 0 dst hd
  | slZ a =>
    have : ns = [] := List.eq_nil_of_length_eq_zero (by simpa using hlen.symm)
    subst this
    exact run_bytes_zero W src e hs he a dst hd
  | sl b o len cap sz xs vs hl hc hs' hz hh hr =>
    refine run_convert_bytes_arg W src e hs he b o len cap ns (by omega) (fun i hi => ?_) dst hd
    have hx := hget i (by omega)
    obtain ⟨q1, _⟩ := hh i _ 0 _ hx rfl
    have q2 := hr i _ 0 _ hx rfl
    cases hv : vs i 0 <;> rw [hv] at q2 <;> cases q2
    rw [hv] at q1
    simpa using q1

theorem str_run_nil {src e dst : TypeId} (hs : P.underlying src = some (.slice e)) (he : P.underlying e = some (.int .u8)) (hd : P.underlying dst = some .string) {v : Value} {xs : List (List D)} (h : RD W F v (.sl 0 xs)) :
    (convert src dst v).run P W = .ok (.string (strOfNums [])) W := by
  cases h with
  | slNil => exact run_convert_bytes_nil W src e hs he 0 0 dst hd
  | slZ _ _ h0 => exact absurd h0 (by omega)
  | sl b o len cap sz xs vs hl hc hs' => exact absurd hs' (by omega)

theorem rrow_get {T : K} {xs : List T.den} {i : Nat} (hi : i < xs.length) : (xs.map T.rrow).getD i [] = (T.row (xs.getD i T.dflt)).map X.raw := by
  rw [K.row_raw]
  simp [List.getD, List.getElem?_eq_getElem hi]

/-- Raw cells as typed ones. -/
theorem el_typed {b o : Nat} {cs : List X} {vs : Nat → Value} (h : ∀ (j : Nat) (d : D), (cs.map X.raw)[j]? = some d → W.cell? ⟨b, o + j, none⟩ = some (vs j) ∧ F b (o + j)) (hr : ∀ (j : Nat) (d : D), (cs.map X.raw)[j]? = some d → RD W F (vs j) d) :
    (∀ (j : Nat) (d : X), cs[j]? = some d → W.cell? ⟨b, o + j, none⟩ = some (vs j) ∧ F b (o + j)) ∧ ∀ (j : Nat) (d : X), cs[j]? = some d → RD W F (vs j) d.raw :=
  ⟨fun j d hj => h j d.raw (by rw [List.getElem?_map, hj]; rfl), fun j d hj => hr j d.raw (by rw [List.getElem?_map, hj]; rfl)⟩

theorem RD.sl_len {v : Value} {sz : Nat} {xs : List (List D)} (h : RD W F v (.sl sz xs)) : ∃ A n c, v = .slice A n c ∧ n = xs.length := by
  cases h with
  | slNil => exact ⟨_, _, _, rfl, rfl⟩
  | slZ => exact ⟨_, _, _, rfl, rfl⟩
  | sl b o len cap sz xs vs hl => exact ⟨_, _, _, rfl, hl.symm⟩

theorem eqFields_run (ht : TabOk P tab) {f : TypeId → V1 → V1 → Option Bool} {d : Nat} (hf : ∀ t v w b u u', f t v w = some b → RV W g u v → RV W g u' w → (Op.equalIn d t u u').run P W = .ok b W)
    {xs ys : Array Value} {cs ds : List Z1} (hx : RCs W g xs.toList cs) (hy : RCs W g ys.toList ds) : ∀ (l : List Field) (b : Bool), eqF tab f cs ds ((l.filter (fun f => f.name != "_")).map (fun f => (f.offset, f.type))) = some b → (Op.eqFields d xs ys l).run P W = .ok b W
  | [], b, h => by simp [eqF] at h; subst h; simp [Op.eqFields]
  | fd :: l, b, h => by
    by_cases hn : fd.name = "_"
    · have e : (fd.name != "_") = false := by simp [hn]
      rw [List.filter_cons, e] at h
      rw [Op.eqFields, if_neg (by simp [hn])]
      exact eqFields_run ht hf hx hy l b (by simpa using h)
    · have e : (fd.name != "_") = true := by simp [hn]
      rw [List.filter_cons, e] at h
      simp only [if_true, List.map_cons, eqF] at h
      split at h
      · cases h
      · rename_i i hi
        split at h
        · rename_i v w hv hw
          obtain ⟨u, q1, q2⟩ := part_run (P := P) (ht _ _ hi) hx hv
          obtain ⟨u', p1, p2⟩ := part_run (P := P) (ht _ _ hi) hy hw
          have go : ∀ c, f fd.type v w = some c → (Op.equalIn d fd.type u u').run P W = .ok c W := fun c hc => hf _ _ _ _ _ _ hc q2 p2
          rw [Op.eqFields, if_pos hn]
          split at h
          · rename_i c hc hl
            cases h
            have hr := eqFields_run ht hf hx hy l true (by rw [hl]; rfl)
            simp only [Sem.run_bind, q1, p1, Result.andThen_ok, go _ hc]
            cases b <;> simp [hr]
          · rename_i c p r hc hl
            split at h
            · rename_i c2 h2
              cases h
              have hr := eqFields_run ht hf hx hy l c2 h2
              simp only [Sem.run_bind, q1, p1, Result.andThen_ok, go _ hc]
              cases c <;> simp [hr]
            · cases h
          · cases h
        · cases h

theorem eqZ_run (ht : TabOk P tab) : ∀ (n d : Nat) (t : TypeId) (v w : V1) (b : Bool) (u u' : Value), eqZ tab n t v w = some b → RV W g u v → RV W g u' w → (Op.equalIn (n + d) t u u').run P W = .ok b W
  | 0, d, t, v, w, b, u, u', h, _, _ => by cases h
  | n + 1, d, t, v, w, b, u, u', h, hu, hw => by
    simp only [eqZ] at h
    split at h
    · cases h
    · rename_i i hi
      obtain ⟨td, h1, h2⟩ := (ht t i hi).und
      rw [show n + 1 + d = (n + d) + 1 from by omega]
      split at h
      · rename_i k0 k a k' b' hty
        split at h
        · rename_i hk
          subst hk
          cases h
          rw [hty] at h2
          have hu' : RD W g.F u (.int k a) := hu
          have hw' : RD W g.F u' (.int k b') := hw
          cases hu'; cases hw'
          exact run_equalIn_int W _ t k k0 a b' (by rw [h1]; exact congrArg some h2)
        · cases h
      · rename_i a b' hty
        cases h
        rw [hty] at h2
        have hu' : RD W g.F u (.bool a) := hu
        have hw' : RD W g.F u' (.bool b') := hw
        cases hu'; cases hw'
        exact run_equalIn_bool' W _ t a b' (by rw [h1]; exact congrArg some h2)
      · rename_i a b' hty
        cases h
        rw [hty] at h2
        have hu' : RD W g.F u (.str a) := hu
        have hw' : RD W g.F u' (.str b') := hw
        cases hu'; cases hw'
        exact run_equalIn_string W _ t a b' (by rw [h1]; exact congrArg some h2)
      · rename_i fs xs ys hty
        split at h
        · rename_i fl hfl
          obtain ⟨l, q1, q2, q3, q4⟩ := (ht t i hi).eqf fl hfl
          obtain ⟨us, rfl, hr⟩ := hu
          obtain ⟨us', rfl, hr'⟩ := hw
          have hfo : P.fieldsOf t = l := by simp [Program.fieldsOf, q1]
          rw [run_equalIn_struct W (n + d) t us us' (by rw [hfo]; exact q1) q3, hfo]
          subst q2
          exact eqFields_run ht (fun t v w b u u' => eqZ_run ht n d t v w b u u') hr hr' l.toList b h
        · cases h
      · cases h
end
end Zed
