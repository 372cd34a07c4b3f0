/- Texts ZedKb of our own machine for the walk of WholeChallenges, one behind the other. -/
import Derived.Test.YtiammpabkpoidaaGreatW02
namespace Zed
open Go
set_option linter.unusedVariables false
set_option linter.unusedSimpArgs false

section
variable {P : Program} {tab : Tab} {E : Ent} {g : G} {s : S} {a : Act} {W W' : World} {F : Nat → Nat → Prop}

/-- An append of a string's bytes, and where the row then stands. -/
theorem append_run_str (t u ty e : TypeId) (i : TypeInfo) (z : Value) (ht : P.underlying t = some (.slice e)) (hu : P.underlying u = some .string) (hi : P.info? e = some i) (hz : i.zero = some z)
    (hzs : z.cells.size = i.size) (hs1 : i.size = 1)
    (v : Value) (n : Nat) (xs : List Value) (hxl : xs.length = n * i.size)
    (hown : (v = .slice none 0 0 ∧ n = 0) ∨ ∃ g cap cur fr, v = .slice (some ⟨g, 0, none⟩) n cap ∧ W.heap[g]? = some (.cells cur e fr) ∧ n ≤ cap ∧ cap ≤ maxLen ∧ cur.size = cap * i.size ∧ cur.toList.take (n * i.size) = xs ∧ (fr = (0, 0) ∨ n = cap))
    (b : ByteArray) (hm : b.size ≠ 0) (h63 : n + b.size ≤ maxLen) (hbytes : (n + b.size) * i.bytes ≤ 140737488355328) :
    ∃ v' W', (Builtin.append_ #[t, u] ty #[v, .string b]).run P W = .ok v' W' ∧ Goes W W' (fun k => v.ownBlock = some k) ∧
      ∃ g cap cur, v' = .slice (some ⟨g, 0, none⟩) (n + b.size) cap ∧ W'.heap[g]? = some (.cells cur e (0, 0)) ∧ n + b.size ≤ cap ∧ cap ≤ maxLen ∧ cur.size = cap * i.size ∧
        cur.toList.take ((n + b.size) * i.size) = xs ++ Lib.strCells b ∧ (v.ownBlock = some g ∨ (W.heap.size ≤ g ∧ ∀ b, b < W.heap.size → W'.heap[b]? = W.heap[b]?)) := by
  have hsmall : n + b.size ≤ 9223372036854775807 := by simp only [maxLen] at h63; omega
  have hl : (Lib.strCells b).length = b.size * i.size := by rw [Lib.strCells_length, hs1, Nat.mul_one]
  have hlen : (xs ++ Lib.strCells b).length = (n + b.size) * i.size := by rw [List.length_append, hxl, hl, Nat.add_mul]
  have grown : ∀ (old : Nat), old < n + b.size → ∀ (row : Option Nat),
      (∃ cur, (W.drew.alloc (.cells (xs.toArray ++ (Lib.strCells b).toArray ++ Builtin.zeroCells z.cells (grownCap W (n + b.size) old e - (n + b.size))) e)).heap[W.heap.size]? = some (.cells cur e (0, 0)) ∧ n + b.size ≤ grownCap W (n + b.size) old e ∧ grownCap W (n + b.size) old e ≤ maxLen ∧
        cur.size = grownCap W (n + b.size) old e * i.size ∧ cur.toList.take ((n + b.size) * i.size) = xs ++ Lib.strCells b) ∧
      W.grownBy (W.drew.alloc (.cells (xs.toArray ++ (Lib.strCells b).toArray ++ Builtin.zeroCells z.cells (grownCap W (n + b.size) old e - (n + b.size))) e)) row := by
    intro old ho row
    have hge := grownCap_ge W (n + b.size) old e
    have hcm : grownCap W (n + b.size) old e ≤ maxLen := grownCap_le_maxLen W (n + b.size) old e h63
    refine ⟨⟨_, heap_alloc_new W.drew _, hge, hcm, ?_, ?_⟩, ⟨rfl, rfl, rfl, by simp, fun k hk _ => heap_alloc_old W.drew _ k hk⟩⟩
    · simp only [Array.size_append, List.size_toArray, size_zeroCells, hzs, hxl, hl, ← Nat.add_mul]
      congr 1
      omega
    · simp only [Array.toList_append, List.append_assoc]
      rw [← List.append_assoc, ← hlen]
      exact List.take_left
  rcases hown with ⟨rfl, rfl⟩ | ⟨g, cap, cur, fr, rfl, hg, hnc, hcm, hcs, htake, hfr⟩
  · have hx : xs = [] := List.eq_nil_of_length_eq_zero (by simpa using hxl)
    subst hx
    have hr := run_append_nil_string (P := P) W t u ty e i z ht hu hi hz b (by omega) (by omega) (by have hb := hbytes; simp only [Nat.zero_add] at hb; omega)
    have e1 : (b.data.map fun b => Value.int .u8 b.toNat) = (Lib.strCells b).toArray := by
      apply Array.ext'
      simp [Lib.strCells]
    rw [e1] at hr
    obtain ⟨⟨cur, c1, c2, c3, c4, c5⟩, hgr⟩ := grown 0 (by omega) (Value.ownBlock (.slice none 0 0))
    simp only [Nat.zero_add, List.nil_append, Array.empty_append] at c1 c2 c3 c4 c5 hgr ⊢
    exact ⟨_, _, hr, Goes.of_grown hgr, _, _, cur, rfl, c1, c2, c3, c4, c5, .inr ⟨Nat.le_refl _, fun k hk => heap_alloc_old W.drew _ k hk⟩⟩
  · by_cases hroom : n + b.size ≤ cap
    · have hfr0 : fr = (0, 0) := by rcases hfr with h | h <;> first | exact h | omega
      subst hfr0
      have hcs' : cur.size = cap := by rw [hcs, hs1, Nat.mul_one]
      have hr := Lib.run_append_room_string (P := P) W t u ty e i ht hu hi hs1 g n cap cur hg b hroom (by omega)
      refine ⟨_, _, hr, ⟨rfl, rfl, rfl, by simp, fun k _ hk => setRow_other W g k _ (fun e => hk (by simp [Value.ownBlock, e]))⟩, g, cap, _, rfl, setRow_heap W g cur _ e _ hg, hroom, hcm, ?_, ?_, .inl rfl⟩
      · simp only [List.size_toArray, List.length_append, List.length_take, List.length_drop, Array.length_toList, Lib.strCells_length]
        omega
      · have htk : cur.toList.take n = xs := by rw [hs1, Nat.mul_one] at htake; exact htake
        rw [htk, ← hlen]
        exact List.take_left
    · have holds : ∀ j u, xs[j]? = some u → W.cell? ((⟨g, 0, none⟩ : Addr).add j) = some u := by
        intro j u hj
        have hlt : j < n * i.size := by
          rcases Nat.lt_or_ge j (n * i.size) with h | h
          · exact h
          · simp [List.getElem?_eq_none (show xs.length ≤ j by omega)] at hj
        have e1 : (⟨g, 0, none⟩ : Addr).add j = ⟨g, j, none⟩ := by unfold Addr.add; split <;> simp_all
        rw [← htake, List.getElem?_take_of_lt hlt] at hj
        rw [e1]
        simp only [World.cell?, hg]
        rw [← Array.getElem?_toList]
        exact hj
      have hr := Lib.run_append_grow_string (P := P) W t u ty e i z ht hu hi hz ⟨g, 0, none⟩ n cap xs hxl holds b (by omega) (by omega) (growslice_fits (by omega) hbytes)
      obtain ⟨⟨cur', c1, c2, c3, c4, c5⟩, hgr⟩ := grown cap (by omega) (Value.ownBlock (.slice (some ⟨g, 0, none⟩) n cap))
      exact ⟨_, _, hr, Goes.of_grown hgr, _, _, cur', rfl, c1, c2, c3, c4, c5, .inr ⟨Nat.le_refl _, fun k hk => heap_alloc_old W.drew _ k hk⟩⟩

theorem append_none_str (t u ty e : TypeId) (i : TypeInfo) (ht : P.underlying t = some (.slice e)) (hu : P.underlying u = some .string) (hi : P.info? e = some i) (A : Option Addr) (n c : Nat) (hn : n ≤ c) (b : ByteArray) (hb : b.size = 0) :
    (Builtin.append_ #[t, u] ty #[.slice A n c, .string b]).run P W = .ok (.slice A n c) W := by
  have hf := Lib.run_firstCells_string (P := P) W i.size b
  have hn0 : Lib.strCells b = [] := List.eq_nil_of_length_eq_zero (by rw [Lib.strCells_length]; exact hb)
  rw [hb, hn0] at hf
  cases A <;> simp [Builtin.append_, run_underlying ht, run_underlying hu, Go.sizeOf, typeInfo, hi, Builtin.lenOf, hb, hn, storeCells, hf]

/-- The bytes of a string, as numbers. -/
noncomputable def bytesOf (b : ByteArray) : List Int := b.data.toList.map fun x => (x.toNat : Int)
/-- The same, as a row's elements. -/
noncomputable def bytesK (b : ByteArray) : List (K.den (.int .u8)) := bytesOf b
theorem bytesOf_length (b : ByteArray) : (bytesOf b).length = b.size := by
  unfold bytesOf
  rw [List.length_map, Array.length_toList]
  rfl

/-- What an append leaves: nothing was to be done; or there is a row. -/
noncomputable def Apps (W W' : World) (e : TypeId) (sz : Nat) (v v' : Value) (n m : Nat) (old news : List Value) : Prop :=
  (m = 0 ∧ v' = v ∧ W' = W) ∨ (Goes W W' (fun b => v.ownBlock = some b) ∧
      ∃ g cap cur, v' = .slice (some ⟨g, 0, none⟩) (n + m) cap ∧ W'.heap[g]? = some (.cells cur e (0, 0)) ∧ n + m ≤ cap ∧ cap ≤ maxLen ∧ cur.size = cap * sz ∧
        cur.toList.take ((n + m) * sz) = old ++ news ∧ (v.ownBlock = some g ∨ (W.heap.size ≤ g ∧ ∀ b, b < W.heap.size → W'.heap[b]? = W.heap[b]?)))

noncomputable def OwnShape (W : World) (e : TypeId) (sz : Nat) (v : Value) (n : Nat) (old : List Value) : Prop :=
  (v = .slice none 0 0 ∧ n = 0) ∨ ∃ g cap cur fr, v = .slice (some ⟨g, 0, none⟩) n cap ∧ W.heap[g]? = some (.cells cur e fr) ∧ n ≤ cap ∧ cap ≤ maxLen ∧ cur.size = cap * sz ∧ cur.toList.take (n * sz) = old ∧ (fr = (0, 0) ∨ n = cap)

theorem OwnShape.slice {e : TypeId} {sz n : Nat} {v : Value} {old : List Value} (h : OwnShape W e sz v n old) : ∃ A c, v = .slice A n c ∧ n ≤ c := by
  rcases h with ⟨rfl, rfl⟩ | ⟨g, cap, cur, fr, rfl, _, h, _⟩
  · exact ⟨_, _, rfl, Nat.le_refl _⟩
  · exact ⟨_, _, rfl, h⟩

theorem apps_slice {t ty e : TypeId} {i : TyI} (ht : P.underlying t = some (.slice e)) (hi : TyOk P e i) {T : K} (hs : 0 < T.size) (hT : T.size = i.size) {v y : Value} {n : Nat} {old : List Value} (hxl : old.length = n * i.size) (ho : OwnShape W e i.size v n old)
    {ys : List T.den} (hy : RD W F y (X.sl T ys).raw) (h63 : n + ys.length ≤ maxLen) (hbytes : (n + ys.length) * i.bytes ≤ 140737488355328) :
    ∃ v' W' news, (Builtin.append_ #[t, t] ty #[v, y]).run P W = .ok v' W' ∧ Apps W W' e i.size v v' n ys.length old news ∧ Rel2 (RD W F) news (ys.flatMap T.rrow) := by
  obtain ⟨j, hj, hjs, hjb, z, hz, hzs, _⟩ := hi.info
  by_cases hy0 : ys.length = 0
  · have hys : ys = [] := List.eq_nil_of_length_eq_zero hy0
    subst hys
    obtain ⟨A, c, rfl, hnc⟩ := ho.slice
    refine ⟨_, W, [], ?_, .inl ⟨rfl, rfl, rfl⟩, ⟨rfl, by simp⟩⟩
    have hy : RD W F y (.sl T.size []) := hy
    cases hy with
    | slNil => exact append_none (P := P) (W := W) t ty e j ht hj A n c hnc
    | slZ a => exact append_empty (P := P) (W := W) t ty e j ht hj A n c hnc _ _
    | sl b o len cap sz rx vs hl =>
      have : len = 0 := by simpa using hl.symm
      subst this
      exact append_empty (P := P) (W := W) t ty e j ht hj A n c hnc _ _
  · obtain ⟨b, o, c, rfl, _, vals, q1, q2⟩ := hy.toFlat hy0
    obtain ⟨v', W', hr, hg, hx⟩ := append_run (P := P) (W := W) t ty e j z ht hj hz (by omega) v n old (by rw [hjs]; exact hxl) (by rw [hjs]; exact ho) ⟨b, o, none⟩ ys.length c vals (by rw [q2.1, flat_len, hT, hjs])
      (fun q u hq => by rw [addr_add]; exact q1 q u hq) (fun u hu => by
        obtain ⟨q, hq⟩ := List.mem_iff_getElem?.1 hu
        have hlt : q < (ys.flatMap T.rrow).length := by rw [← q2.1]; exact (List.getElem?_eq_some_iff.1 hq).1
        exact (q2.2 q u _ hq (List.getElem?_eq_getElem hlt)).one) hy0 h63 (by rw [hjb]; exact hbytes)
    rw [hjs] at hx
    exact ⟨v', W', vals, hr, .inr ⟨hg, hx⟩, q2⟩

theorem apps_str {t u ty e : TypeId} {i : TyI} (ht : P.underlying t = some (.slice e)) (hu : P.underlying u = some .string) (hi : TyOk P e i) (hs1 : i.size = 1) {v : Value} {n : Nat} {old : List Value} (hxl : old.length = n * i.size) (ho : OwnShape W e i.size v n old)
    {b : ByteArray} (h63 : n + (bytesOf b).length ≤ maxLen) (hbytes : (n + (bytesOf b).length) * i.bytes ≤ 140737488355328) :
    ∃ v' W' news, (Builtin.append_ #[t, u] ty #[v, .string b]).run P W = .ok v' W' ∧ Apps W W' e i.size v v' n (bytesOf b).length old news ∧ Rel2 (RD W F) news ((bytesOf b).flatMap (K.int .u8).rrow) := by
  obtain ⟨j, hj, hjs, hjb, z, hz, hzs, _⟩ := hi.info
  rw [bytesOf_length] at *
  by_cases hb0 : b.size = 0
  · obtain ⟨A, c, rfl, hnc⟩ := ho.slice
    refine ⟨_, W, Lib.strCells b, append_none_str t u ty e j ht hu hj A n c hnc b hb0, .inl ⟨hb0, rfl, rfl⟩, strCells_rel b⟩
  · obtain ⟨v', W', hr, hg, hx⟩ := append_run_str (P := P) (W := W) t u ty e j z ht hu hj hz (by omega) (by omega) v n old (by rw [hjs]; exact hxl) (by rw [hjs]; exact ho) b hb0 h63 (by rw [hjb]; exact hbytes)
    rw [hjs] at hx
    exact ⟨v', W', _, hr, .inr ⟨hg, hx⟩, strCells_rel b⟩

/-- Appended to a row that may be written (or to nil, or to a row of the call's own: then it is such a row). -/
theorem AI.appRow (h : AI P E g s a W) {dst : Option Nat} {kill : Option Nat} {e : TypeId} {i : TyI} (hi : TyOk P e i) {T : K} {xs ys : List T.den} {v v' : Value} {old news : List Value} {base : Nat} {n' : Nat → Prop}
    (hd : ∀ d, dst = some d → d < E.nt) (hb : ¬ s.us base) (hm : ∀ k, s.us k → n' k) (hn : n' base) (hT : 0 < T.size ∧ T.size = i.size)
    (hCh : ∀ b, v.ownBlock = some b → ∃ l0 e0, kill = some l0 ∧ s.live l0 = some e0 ∧ (g.ω l0).ownBlock = some b) (hnF : ∀ b, v.ownBlock = some b → ∀ o, ¬ g.F b o)
    (hfr : ∀ b cur fr, v.ownBlock = some b → W.heap[b]? = some (.cells cur e fr) → fr = (0, 0))
    (ho : OwnShape W e i.size v xs.length old) (hold : Rel2 (RD W g.F) old (xs.flatMap T.rrow)) (hnew : Rel2 (RD W g.F) news (ys.flatMap T.rrow)) (hA : Apps W W' e i.size v v' xs.length ys.length old news) :
    ∃ g', AI P E g' (s.go dst (.one (.c (.row base T))) ⟨kill.toList, [(base, ⟨e, 2⟩)], [(base, [.run T (xs ++ ys)])]⟩ n') (a.put dst v') W' := by
  have hcz : P.cellsOf e = i.size := hi.cells
  rcases hA with ⟨h0, rfl, rfl⟩ | ⟨hg, g1, cap, cur, hv, hh, hc1, hc2, hc3, hc4, hc5⟩
  · have hys : ys = [] := List.eq_nil_of_length_eq_zero h0
    subst hys
    rw [List.append_nil]
    refine h.mrow (Ch := fun b => v'.ownBlock = some b) hd hb hm hn ⟨rfl, rfl, rfl, Nat.le_refl _, fun _ _ _ => rfl⟩ hCh hnF ⟨hT.1, by rw [hcz]; exact hT.2⟩ ?_
    rcases ho with ⟨q1, q2⟩ | ⟨g0, cap, cur, fr, q1, q2, q3, q4, q5, q6, _⟩
    · exact .inl ⟨q1, List.eq_nil_of_length_eq_zero q2⟩
    · have := hfr g0 cur fr (by rw [q1]; rfl) q2
      subst this
      exact .inr ⟨g0, cap, cur, q1, q2, q3, q4, by rw [hcz]; exact q5, .inl (by rw [q1]; rfl), fun _ => by rw [hT.2, q6]; exact hold⟩
  · refine h.mrow (Ch := fun b => v.ownBlock = some b) hd hb hm hn hg hCh hnF ⟨hT.1, by rw [hcz]; exact hT.2⟩ (.inr ⟨g1, cap, cur, by rw [List.length_append]; exact hv, hh, by rw [List.length_append]; exact hc1, hc2, by rw [hcz]; exact hc3, hc5.imp id (fun q => q.1), fun hk => ?_⟩)
    rw [List.length_append, hT.2, hc4, List.flatMap_append]
    exact (hold.keepD hk).app (hnew.keepD hk)

/-- Appended to a row of the call's own (or to nil). -/
theorem AI.appOwn (h : AI P E g s a W) {dst : Option Nat} {kill : Option Nat} {e : TypeId} {k0 : Nat} {i : TyI} (hi : TyOk P e i) {T : K} {xs ys : List T.den} {v v' : Value} {old news : List Value} {base : Nat} {n' : Nat → Prop}
    (hd : ∀ d, dst = some d → d < E.nt) (hb : ¬ s.us base) (hm : ∀ k, s.us k → n' k) (hn : n' base) (hT : 0 < T.size ∧ T.size = i.size) (hownV : OwnV P W g.F v ⟨e, k0⟩) (hxr : RD W g.F v (X.sl T xs).raw)
    (hCh : ∀ b, v.ownBlock = some b → ∃ l0 e0, kill = some l0 ∧ s.live l0 = some e0 ∧ (g.ω l0).ownBlock = some b)
    (ho : OwnShape W e i.size v xs.length old) (hold : Rel2 (RD W g.F) old (xs.flatMap T.rrow)) (hnew : Rel2 (RD W g.F) news (ys.flatMap T.rrow)) (hA : Apps W W' e i.size v v' xs.length ys.length old news) :
    ∃ g', AI P E g' (s.go dst (.one (.c (.own base T (xs ++ ys)))) ⟨kill.toList, [(base, ⟨e, 0⟩)], []⟩ n') (a.put dst v') W' := by
  have hcz : P.cellsOf e = i.size := hi.cells
  have fit : ∀ o b, v.ownBlock = some b → g.F b o → o < xs.length * i.size := by
    intro o b hvb hf
    rcases hownV with ⟨rfl, _⟩ | ⟨g0, n, cap, cur, fr, hv, hg0, hnc, hcm, hcs, hf', _⟩
    · cases hvb
    · rcases ho with ⟨q, _⟩ | ⟨g2, cap2, cur2, fr2, q1, q2, _⟩
      · rw [hv] at q; cases q
      · rw [hv] at q1 hvb
        simp only [Value.slice.injEq, Option.some.injEq, Addr.mk.injEq] at q1
        simp only [Value.ownBlock, Option.some.injEq] at hvb
        obtain ⟨_, rfl, _⟩ := q1
        subst hvb
        rw [← hcz]; exact hf' o hf
  rcases hA with ⟨h0, rfl, rfl⟩ | ⟨hg, g1, cap1, cur1, hv', hg1, hn1, hc1, hs1, ht1, hwhere⟩
  · have hys : ys = [] := List.eq_nil_of_length_eq_zero h0
    subst hys
    rw [List.append_nil]
    refine h.row (e := ⟨e, 0⟩) (Ch := fun b => v'.ownBlock = some b) (n := xs.length) hd hb hm hn ⟨rfl, rfl, rfl, Nat.le_refl _, fun _ _ _ => rfl⟩ hCh (fun _ _ _ _ => rfl) (show (0 : Nat) ≠ 2 by decide) ?_ (fun hk => hxr.keep hk)
    rcases hownV with ⟨hv, _⟩ | ⟨g0, n0, cap, cur, fr, hv, hg0, hnc0, hcm, hcs, hf, _, hfr, _⟩
    · exact .inl ⟨hv, rfl⟩
    · have hlen : n0 = xs.length := by
        rcases ho with ⟨q, _⟩ | ⟨g2, cap2, cur2, fr2, q1, _⟩
        · rw [hv] at q; cases q
        · rw [hv] at q1; simp only [Value.slice.injEq] at q1; exact q1.2.1
      subst hlen
      exact .inr ⟨g0, cap, cur, fr, hv, hg0, hnc0, hcm, hcs, .inl (by rw [hv]; rfl), hf, fun h0 => absurd rfl h0, hfr⟩
  · refine h.row (e := ⟨e, 0⟩) (n := (xs ++ ys).length) hd hb hm hn hg hCh (fun b' o' hc hf => ?_) (show (0 : Nat) ≠ 2 by decide) (.inr ⟨g1, cap1, cur1, (0, 0), by rw [List.length_append]; exact hv', hg1, by rw [List.length_append]; exact hn1, hc1, by rw [hcz]; exact hs1, hwhere.imp id (fun q => q.1), fun o' hf => ?_, fun h0 => absurd rfl h0, .inl rfl⟩) (fun hk => ?_)
    · have hlt := fit o' b' hc hf
      rcases ho with ⟨rfl, _⟩ | ⟨g0, cap, cur, fr, rfl, hg0, hnc, hcm, hcs, htake, _⟩
      · cases hc
      · simp only [Value.ownBlock, Option.some.injEq] at hc
        subst hc
        by_cases hsame : g0 = g1
        · subst hsame
          simp only [World.cell?, hg0, hg1]
          have e1 : cur.toList[o']? = old[o']? := by rw [← htake, List.getElem?_take_of_lt hlt]
          have hol : o' < old.length := by rw [hold.1, flat_len, hT.2]; exact hlt
          have e2 : cur1.toList[o']? = old[o']? := by
            have : (cur1.toList.take ((xs.length + ys.length) * i.size))[o']? = (old ++ news)[o']? := by rw [ht1]
            rw [List.getElem?_take_of_lt (by rw [Nat.add_mul]; omega), List.getElem?_append_left hol] at this
            exact this
          rw [Array.getElem?_toList] at e1 e2
          show cur1[o']? = cur[o']?
          rw [e1, e2]
        · rcases hwhere with h1 | ⟨_, h1⟩
          · simp only [Value.ownBlock, Option.some.injEq] at h1; exact absurd h1 hsame
          · exact cell_of_block (h1 g0 (lt_of_heap hg0))
    · show o' < (xs ++ ys).length * P.cellsOf e
      rcases hwhere with h1 | ⟨h1, _⟩
      · have := fit o' g1 h1 hf
        rw [hcz, List.length_append, Nat.add_mul]; omega
      · have := h.b.fz _ _ hf; omega
    · subst hv'
      rw [← List.length_append]
      refine RD.ofFlat (vals := cur1.toList.take ((xs.length + ys.length) * i.size)) rfl (by rw [List.length_append]; exact hn1) hT.1 (fun q u hq hu => ?_) ?_
      · rw [List.length_append, hT.2] at hq
        rw [List.getElem?_take_of_lt hq] at hu
        refine ⟨by simp only [World.cell?, hg1]; rw [← Array.getElem?_toList]; exact hu, .inr ⟨rfl, ?_⟩⟩
        show q < (xs ++ ys).length * P.cellsOf e
        rw [hcz, List.length_append]; exact hq
      · rw [ht1, List.flatMap_append]
        exact (hold.keepD hk).app (hnew.keepD hk)
end
end Zed
