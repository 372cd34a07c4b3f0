/- ZED, tenth text: an append to a row of the call's own, a row that is built, in the world. -/
import Derived.Test.YtakamchmiakicaaDoorZedI
namespace Zed
open Go
set_option linter.unusedVariables false
set_option linter.unusedSimpArgs false

section
variable {P : Program} {W : World}

/-- An append, and where the row then stands. -/
theorem append_run (t ty e : TypeId) (i : TypeInfo) (z : Value) (ht : P.underlying t = some (.slice e)) (hi : P.info? e = some i) (hz : i.zero = some z)
    (hzs : z.cells.size = i.size)
    (v : Value) (n : Nat) (xs : List Value) (hxl : xs.length = n * i.size)
    (hown : (v = .slice none 0 0 ∧ n = 0) ∨ ∃ g cap cur fr, v = .slice (some ⟨g, 0, none⟩) n cap ∧ W.heap[g]? = some (.cells cur e fr) ∧ n ≤ cap ∧ cap ≤ maxLen ∧ cur.size = cap * i.size ∧ cur.toList.take (n * i.size) = xs ∧ (fr = (0, 0) ∨ n = cap))
    (a : Addr) (m c : Nat) (news : List Value) (hl : news.length = m * i.size) (hnews : ∀ j u, news[j]? = some u → W.cell? (a.add j) = some u) (h1 : ∀ u ∈ news, u.oneCell' = true) (hm : m ≠ 0)
    (h63 : n + m ≤ maxLen) (hbytes : (n + m) * i.bytes ≤ 140737488355328) :
    ∃ v' W', (Builtin.append_ #[t, t] ty #[v, .slice (some a) m c]).run P W = .ok v' W' ∧ Goes W W' (fun b => v.ownBlock = some b) ∧
      ∃ g cap cur, v' = .slice (some ⟨g, 0, none⟩) (n + m) cap ∧ W'.heap[g]? = some (.cells cur e (0, 0)) ∧ n + m ≤ cap ∧ cap ≤ maxLen ∧ cur.size = cap * i.size ∧
        cur.toList.take ((n + m) * i.size) = xs ++ news ∧ (v.ownBlock = some g ∨ (W.heap.size ≤ g ∧ ∀ b, b < W.heap.size → W'.heap[b]? = W.heap[b]?)) := by
  have hsmall : n + m ≤ 9223372036854775807 := by simp only [maxLen] at h63; omega
  have hlen : (xs ++ news).length = (n + m) * i.size := by rw [List.length_append, hxl, hl, Nat.add_mul]
  have grown : ∀ (old : Nat), old < n + m → ∀ (row : Option Nat),
      (∃ cur, (W.drew.alloc (.cells (xs.toArray ++ news.toArray ++ Builtin.zeroCells z.cells (grownCap W (n + m) old e - (n + m))) e)).heap[W.heap.size]? = some (.cells cur e (0, 0)) ∧ n + m ≤ grownCap W (n + m) old e ∧ grownCap W (n + m) old e ≤ maxLen ∧
        cur.size = grownCap W (n + m) old e * i.size ∧ cur.toList.take ((n + m) * i.size) = xs ++ news) ∧
      W.grownBy (W.drew.alloc (.cells (xs.toArray ++ news.toArray ++ Builtin.zeroCells z.cells (grownCap W (n + m) old e - (n + m))) e)) row := by
    intro old ho row
    have hge := grownCap_ge W (n + m) old e
    have hcm : grownCap W (n + m) old e ≤ maxLen := grownCap_le_maxLen W (n + m) old e h63
    refine ⟨⟨_, heap_alloc_new W.drew _, hge, hcm, ?_, ?_⟩, ⟨rfl, rfl, rfl, by simp, fun k hk _ => heap_alloc_old W.drew _ k hk⟩⟩
    · simp only [Array.size_append, List.size_toArray, size_zeroCells, hzs, hxl, hl, ← Nat.add_mul]
      congr 1
      omega
    · simp only [Array.toList_append, List.append_assoc]
      rw [← List.append_assoc, ← hlen]
      exact List.take_left
  rcases hown with ⟨rfl, rfl⟩ | ⟨g, cap, cur, fr, rfl, hg, hnc, hcm, hcs, htake, hfr⟩
  · have hx : xs = [] := List.eq_nil_of_length_eq_zero (by simpa using hxl)
    subst hx
    have hr := run_append_nil (P := P) W t ty e i z ht hi hz a m c news hl hnews (by omega) (by omega) (by have hb := hbytes; simp only [Nat.zero_add] at hb; omega)
    obtain ⟨⟨cur, c1, c2, c3, c4, c5⟩, hgr⟩ := grown 0 (by omega) (Value.ownBlock (.slice none 0 0))
    simp only [Nat.zero_add, List.nil_append, Array.empty_append] at c1 c2 c3 c4 c5 hgr ⊢
    exact ⟨_, _, hr, Goes.of_grown hgr, _, _, cur, rfl, c1, c2, c3, c4, c5, .inr ⟨Nat.le_refl _, fun k hk => heap_alloc_old W.drew _ k hk⟩⟩
  · by_cases hroom : n + m ≤ cap
    · have hfr0 : fr = (0, 0) := by rcases hfr with h | h <;> first | exact h | omega
      subst hfr0
      have hfit : n * i.size + news.length ≤ cur.size := by rw [hl, hcs, ← Nat.add_mul]; exact Nat.mul_le_mul_right _ hroom
      have hr := run_append_room (P := P) W t ty e i ht hi g n cap cur hg a m c news hl hnews h1 hroom hfit
      refine ⟨_, _, hr, ⟨rfl, rfl, rfl, by simp, fun k _ hk => setRow_other W g k _ (fun e => hk (by simp [Value.ownBlock, e]))⟩, g, cap, _, rfl, setRow_heap W g cur _ e _ hg, hroom, hcm, ?_, ?_, .inl rfl⟩
      · simp only [List.size_toArray, List.length_append, List.length_take, List.length_drop, Array.length_toList]
        omega
      · rw [htake, ← hlen]
        exact List.take_left
    · have holds : ∀ j u, xs[j]? = some u → W.cell? ((⟨g, 0, none⟩ : Addr).add j) = some u := by
        intro j u hj
        have hlt : j < n * i.size := by
          rcases Nat.lt_or_ge j (n * i.size) with h | h
          · exact h
          · simp [List.getElem?_eq_none (show xs.length ≤ j by omega)] at hj
        have e1 : (⟨g, 0, none⟩ : Addr).add j = ⟨g, j, none⟩ := by unfold Addr.add; split <;> simp_all
        rw [← htake, List.getElem?_take_of_lt hlt] at hj
        rw [e1]
        simp only [World.cell?, hg]
        rw [← Array.getElem?_toList]
        exact hj
      have hr := run_append_grow (P := P) W t ty e i z ht hi hz ⟨g, 0, none⟩ n cap xs hxl holds a m c news hl hnews (by omega) (by omega) (growslice_fits (by omega) hbytes)
      obtain ⟨⟨cur', c1, c2, c3, c4, c5⟩, hgr⟩ := grown cap (by omega) (Value.ownBlock (.slice (some ⟨g, 0, none⟩) n cap))
      exact ⟨_, _, hr, Goes.of_grown hgr, _, _, cur', rfl, c1, c2, c3, c4, c5, .inr ⟨Nat.le_refl _, fun k hk => heap_alloc_old W.drew _ k hk⟩⟩

/-- An append of nothing. -/
theorem append_none (t ty e : TypeId) (i : TypeInfo) (ht : P.underlying t = some (.slice e)) (hi : P.info? e = some i) (A : Option Addr) (n c : Nat) (hn : n ≤ c) :
    (Builtin.append_ #[t, t] ty #[.slice A n c, .slice none 0 0]).run P W = .ok (.slice A n c) W := by
  cases A <;> simp [Builtin.append_, run_underlying ht, Go.sizeOf, typeInfo, hi, Builtin.lenOf, Builtin.firstCells, hn, storeCells]

theorem append_empty (t ty e : TypeId) (i : TypeInfo) (ht : P.underlying t = some (.slice e)) (hi : P.info? e = some i) (A : Option Addr) (n c : Nat) (hn : n ≤ c) (B : Addr) (c' : Nat) :
    (Builtin.append_ #[t, t] ty #[.slice A n c, .slice (some B) 0 c']).run P W = .ok (.slice A n c) W := by
  have hl : (loadCells B 0).run P W = .ok #[] W := by simp [loadCells, loadCellsFrom]
  cases A <;> simp [Builtin.append_, run_underlying ht, Go.sizeOf, typeInfo, hi, Builtin.lenOf, Builtin.firstCells, hn, storeCells, hl]

variable {E : Ent} {g : G} {s : S} {a : Act}

/-- The cells of a row of data, one behind the other. -/
theorem RD.flat {F : Nat → Nat → Prop} {v : Value} {sz : Nat} {ys : List (List D)} (h : RD W F v (.sl sz ys)) (hne : ys.length ≠ 0 ∨ ∃ b o n c, v = .slice (some ⟨b, o, none⟩) n c) :
    ∃ b o c, v = .slice (some ⟨b, o, none⟩) ys.length c ∧ ∃ vs : Nat → Value, (∀ q, q < ys.length * sz → W.cell? ⟨b, o + q, none⟩ = some (vs q)) ∧
      ∀ (i j : Nat) (d : D), i < ys.length → j < sz → (ys.getD i [])[j]? = some d → RD W F (vs (i * sz + j)) d := by
  cases h with
  | slNil => rcases hne with h0 | ⟨b, o, n, c, h0⟩ <;> simp at h0
  | slZ a =>
    rcases hne with h0 | ⟨b, o, n, c, h0⟩
    · simp at h0
    · simp at h0; obtain ⟨rfl, rfl, rfl⟩ := h0; exact ⟨b, o, 0, rfl, fun _ => .nilIface, by simp, by simp⟩
  | sl b o len cap sz xs vs hl hc hs hz hh hr =>
    subst hl
    have key : ∀ i j, i < ys.length → j < sz → ∃ d, ys[i]? = some (ys.getD i []) ∧ (ys.getD i [])[j]? = some d := by
      intro i j hi hj
      have h1 : ys[i]? = some (ys.getD i []) := by simp [List.getD, List.getElem?_eq_getElem hi]
      have h2 := hz i _ h1
      exact ⟨(ys.getD i [])[j], h1, List.getElem?_eq_getElem (by omega)⟩
    refine ⟨b, o, cap, rfl, fun q => vs (q / sz) (q % sz), fun q hq => ?_, fun i j d hi hj hd => ?_⟩
    · have h1 : q / sz < ys.length := Nat.div_lt_of_lt_mul (by rw [Nat.mul_comm]; exact hq)
      have h2 : q % sz < sz := Nat.mod_lt _ hs
      obtain ⟨d, p1, p2⟩ := key _ _ h1 h2
      have := (hh _ _ _ d p1 p2).1
      rw [Nat.add_assoc, Nat.mul_comm, Nat.div_add_mod] at this
      exact this
    · obtain ⟨d', p1, p2⟩ := key i j hi hj
      have e1 : (i * sz + j) / sz = i := by rw [Nat.mul_comm, Nat.mul_add_div hs, Nat.div_eq_of_lt hj]; rfl
      have e2 : (i * sz + j) % sz = j := by rw [Nat.mul_comm, Nat.mul_add_mod, Nat.mod_eq_of_lt hj]
      show RD W F (vs ((i * sz + j) / sz) ((i * sz + j) % sz)) d
      rw [e1, e2]
      exact hr i _ j d p1 hd

/-- A row of data out of cells that stand one behind the other. -/
theorem RD.ofCells {F : Nat → Nat → Prop} {b n cap sz : Nat} {xs : List (List D)} {vs : List Value} (hl : xs.length = n) (hc : n ≤ cap) (hs : 0 < sz) (hz : ∀ c ∈ xs, c.length = sz)
    (hcell : ∀ q v, q < n * sz → vs[q]? = some v → W.cell? ⟨b, q, none⟩ = some v ∧ F b q) (hlen : n * sz ≤ vs.length)
    (hr : ∀ i j v d, i < n → j < sz → vs[i * sz + j]? = some v → (xs.getD i [])[j]? = some d → RD W F v d) : RD W F (.slice (some ⟨b, 0, none⟩) n cap) (.sl sz xs) := by
  have key : ∀ (i : Nat) (c : List D) (j : Nat) (d : D), xs[i]? = some c → c[j]? = some d → i < n ∧ j < sz ∧ xs.getD i [] = c ∧ vs[i * sz + j]? = some (vs.getD (i * sz + j) .nilIface) ∧ i * sz + j < n * sz := by
    intro i c j d h1 h2
    have hi : i < n := by
      rcases Nat.lt_or_ge i n with q | q
      · exact q
      · simp [List.getElem?_eq_none (show xs.length ≤ i by omega)] at h1
    have hcl := hz c (List.mem_of_getElem? h1)
    have hj : j < sz := by
      rcases Nat.lt_or_ge j sz with q | q
      · exact q
      · simp [List.getElem?_eq_none (show c.length ≤ j by omega)] at h2
    have hlt : i * sz + j < n * sz := by
      have : (i + 1) * sz ≤ n * sz := Nat.mul_le_mul_right _ hi
      rw [Nat.add_mul] at this; omega
    refine ⟨hi, hj, by simp [List.getD, h1], ?_, hlt⟩
    simp [List.getD, List.getElem?_eq_getElem (show i * sz + j < vs.length by omega)]
  refine .sl b 0 n cap sz xs (fun i j => vs.getD (i * sz + j) .nilIface) hl hc hs (fun i c h => hz c (List.mem_of_getElem? h)) (fun i c j d h1 h2 => ?_) (fun i c j d h1 h2 => ?_)
  · obtain ⟨_, _, _, h5, h6⟩ := key i c j d h1 h2
    rw [Nat.zero_add]
    exact hcell _ _ h6 h5
  · obtain ⟨h3, h4, h5, h6, _⟩ := key i c j d h1 h2
    exact hr i j _ d h3 h4 h6 (by rw [h5]; exact h2)

theorem RD.sizes {F : Nat → Nat → Prop} {v : Value} {sz : Nat} {ys : List (List D)} (h : RD W F v (.sl sz ys)) : ∀ c ∈ ys, c.length = sz := by
  cases h with
  | slNil => simp
  | slZ => simp
  | sl b o len cap sz xs vs hl hc hs hz hh hr =>
    intro c hc'
    obtain ⟨i, hi, rfl⟩ := List.mem_iff_getElem.1 hc'
    exact hz i _ (List.getElem?_eq_getElem hi)

theorem take_len {α : Type} {l : List α} {k m : Nat} (h : l.length = m) (hk : k ≤ m) : (l.take k).length = k := by rw [List.length_take, h]; exact Nat.min_eq_left hk

/-- AN APPEND to a row of the call's own. -/
theorem AI.append (h : AI P E g s a W) {dst : Option Nat} {t ty e : TypeId} {k0 : Nat} {i : TyI} (ht : P.underlying t = some (.slice e)) (hi : TyOk P e i) {kill : Option Nat} {T : K} (hsz : 0 < T.size) (hTs : T.size = i.size) {xs : List T.den} {v y : Value} {ys : List T.den} {base : Nat} {n' : Nat → Prop}
    (hd : ∀ d, dst = some d → d < E.nt) (hb : ¬ s.us base) (hm : ∀ k, s.us k → n' k) (hn : n' base) (hxr : RD W g.F v (X.sl T xs).raw) (hownV : OwnV P W g.F v ⟨e, k0⟩) (hCh : ∀ b, v.ownBlock = some b → ∃ l0 e0, kill = some l0 ∧ s.live l0 = some e0 ∧ (g.ω l0).ownBlock = some b) (hy : RD W g.F y (X.sl T ys).raw)
    (h63 : xs.length + ys.length ≤ maxLen) (hbytes : (xs.length + ys.length) * i.bytes ≤ 140737488355328) :
    ∃ v' W' g', (Builtin.append_ #[t, t] ty #[v, y]).run P W = .ok v' W' ∧ AI P E g' (s.go dst (.one (.c (.own base T (xs ++ ys)))) ⟨kill.toList, [(base, ⟨e, 0⟩)], []⟩ n') (a.put dst v') W' := by
  have hxr : RD W g.F v (.sl T.size (xs.map T.rrow)) := hxr
  have hy : RD W g.F y (.sl T.size (ys.map T.rrow)) := hy
  rw [hTs] at hxr hy hsz
  have hfinal : ∀ {F : Nat → Nat → Prop} {W' : World} {v' : Value}, RD W' F v' (.sl i.size (xs.map T.rrow ++ ys.map T.rrow)) → RD W' F v' (X.sl T (xs ++ ys)).raw := by
    intro F W' v' h0
    show RD W' F v' (.sl T.size ((xs ++ ys).map T.rrow))
    rw [hTs, List.map_append]; exact h0
  have hxl : (xs.map T.rrow).length = xs.length := List.length_map ..
  have hyl : (ys.map T.rrow).length = ys.length := List.length_map ..
  have happ : (xs ++ ys).length = (xs.map T.rrow ++ ys.map T.rrow).length := by simp
  generalize hrx : xs.map T.rrow = rx at *
  generalize hry : ys.map T.rrow = ry at *
  rw [← hxl, ← hyl] at h63 hbytes
  obtain ⟨j, hj, hjs, hjb, z, hz, hzs, _⟩ := hi.info
  have hcz : P.cellsOf e = i.size := hi.cells
  have hlenX : ∀ {g0 n cap}, v = .slice (some ⟨g0, 0, none⟩) n cap → rx.length = n := by
    rintro g0 n cap rfl
    cases hxr with
    | slZ => rfl
    | sl _ _ _ _ _ _ _ hl => exact hl
  -- the row as it stands
  obtain ⟨old, hol, hown, hold⟩ : ∃ old : List Value, old.length = rx.length * i.size ∧
      ((v = .slice none 0 0 ∧ rx.length = 0) ∨ ∃ g cap cur fr, v = .slice (some ⟨g, 0, none⟩) rx.length cap ∧ W.heap[g]? = some (.cells cur e fr) ∧ rx.length ≤ cap ∧ cap ≤ maxLen ∧ cur.size = cap * i.size ∧ cur.toList.take (rx.length * i.size) = old ∧ (fr = (0, 0) ∨ rx.length = cap)) ∧
      ∀ i' j' u d, i' < rx.length → j' < i.size → old[i' * i.size + j']? = some u → (rx.getD i' [])[j']? = some d → RD W g.F u d := by
    rcases hownV with ⟨rfl, _⟩ | ⟨g0, n, cap, cur, fr, hv, hg0, hnc, hcm, hcs, hf, _, hfr, _⟩
    · cases hxr with
      | slNil => exact ⟨[], by simp, .inl ⟨rfl, rfl⟩, fun i' _ _ _ h0 => by simp at h0⟩
    · have hlen := hlenX hv
      rw [hcz] at hcs hf
      subst hlen
      refine ⟨cur.toList.take (rx.length * i.size), take_len (by simpa using hcs) (Nat.mul_le_mul_right _ hnc), .inr ⟨g0, cap, cur, fr, hv, hg0, hnc, hcm, hcs, rfl, hfr⟩, fun i' j' u d h1 h2 h3 h4 => ?_⟩
      obtain ⟨b, o, c, e1, vs, q1, q2⟩ := hxr.flat (.inr ⟨_, _, _, _, hv⟩)
      rw [hv] at e1
      simp only [Value.slice.injEq, Option.some.injEq, Addr.mk.injEq] at e1
      obtain ⟨⟨rfl, rfl, _⟩, _, rfl⟩ := e1
      have hlt : i' * i.size + j' < rx.length * i.size := by
        have : (i' + 1) * i.size ≤ rx.length * i.size := Nat.mul_le_mul_right _ h1
        rw [Nat.add_mul] at this; omega
      have hc1 := q1 _ hlt
      rw [Nat.zero_add] at hc1
      rw [List.getElem?_take_of_lt hlt] at h3
      simp only [World.cell?, hg0] at hc1
      rw [Array.getElem?_toList] at h3
      have : u = vs (i' * i.size + j') := by
        have := h3.symm.trans hc1
        simpa using this
      rw [this]
      exact q2 i' j' d h1 h2 h4
  have fit : ∀ o, (∀ b, v.ownBlock = some b → g.F b o → o < rx.length * P.cellsOf e) := by
    intro o b hvb hf
    rcases hownV with ⟨rfl, _⟩ | ⟨g0, n, cap, cur, fr, hv, hg0, hnc, hcm, hcs, hf', _⟩
    · cases hvb
    · have hlen := hlenX hv
      rw [hv] at hvb
      simp only [Value.ownBlock, Option.some.injEq] at hvb
      subst hvb
      rw [hlen]
      exact hf' o hf
  by_cases hyn : y = .slice none 0 0 ∨ ry = []
  · have hys : ry = [] := by
      rcases hyn with rfl | h1
      · cases hy; rfl
      · exact h1
    subst hys
    obtain ⟨A, n, c, hv, hnc⟩ : ∃ A n c, v = .slice A n c ∧ n ≤ c := by
      rcases hownV with ⟨rfl, _⟩ | ⟨g0, n, cap, cur, fr, rfl, hg0, hnc, _⟩
      · exact ⟨_, _, _, rfl, Nat.le_refl _⟩
      · exact ⟨_, _, _, rfl, hnc⟩
    have hr : (Builtin.append_ #[t, t] ty #[v, y]).run P W = .ok v W := by
      rw [hv]
      cases hy with
      | slNil => exact append_none (P := P) (W := W) t ty e j ht hj A n c hnc
      | slZ a => exact append_empty (P := P) (W := W) t ty e j ht hj A n c hnc _ _
      | sl b o len cap sz rx vs hl =>
        have : len = 0 := by simpa using hl.symm
        subst this
        exact append_empty (P := P) (W := W) t ty e j ht hj A n c hnc _ _
    obtain ⟨g', h'⟩ := h.row (dst := dst) (kill := kill) (Ch := fun b => v.ownBlock = some b) (W' := W) (v := v) (e := ⟨e, 0⟩) (n := rx.length) (T := T) (xs := xs ++ ys) (base := base) (n' := n') hd hb hm hn ⟨rfl, rfl, rfl, Nat.le_refl _, fun _ _ _ => rfl⟩
      hCh (fun _ _ _ _ => rfl) (show (0 : Nat) ≠ 2 by decide) (by
        rcases hownV with ⟨hv, _⟩ | ⟨g0, n0, cap, cur, fr, hv, hg0, hnc0, hcm, hcs, hf, _, hfr, _⟩
        · exact .inl ⟨hv, rfl⟩
        · have hlen := hlenX hv
          subst hlen
          exact .inr ⟨g0, cap, cur, fr, hv, hg0, hnc0, hcm, hcs, .inl (by rw [hv]; rfl), hf, fun h0 => absurd rfl h0, hfr⟩) (fun hk => hfinal (by rw [List.append_nil]; exact hxr.keep hk))
    exact ⟨_, W, g', hr, h'⟩
  · have hyn1 : y ≠ .slice none 0 0 := fun q => hyn (.inl q)
    have hyn2 : ry.length ≠ 0 := fun q => hyn (.inr (List.eq_nil_of_length_eq_zero q))
    obtain ⟨b, o, c, rfl, vs, q1, q2⟩ := hy.flat (.inl hyn2)
    have hsizeY := hy.sizes
    have hsizeX := hxr.sizes
    obtain ⟨v', W', hr, hg, g1, cap1, cur1, hv', hg1, hn1, hc1, hs1, ht1, hwhere⟩ := append_run (P := P) (W := W) t ty e j z ht hj hz (by omega) v rx.length old (by rw [hjs]; exact hol) (by rw [hjs]; exact hown) ⟨b, o, none⟩ ry.length c ((List.range (ry.length * i.size)).map vs)
      (by simp [hjs]) (fun q u hq => by
        have hlt : q < ry.length * i.size := by
          rcases Nat.lt_or_ge q (ry.length * i.size) with h1 | h1
          · exact h1
          · simp [List.getElem?_eq_none (show ((List.range (ry.length * i.size))).length ≤ q by simpa using h1)] at hq
        simp [hlt] at hq
        rw [addr_add, q1 q hlt, hq]) (fun u hu => by
        simp only [List.mem_map, List.mem_range] at hu
        obtain ⟨q, hq, rfl⟩ := hu
        have h1 : q / i.size < ry.length := Nat.div_lt_of_lt_mul (by rw [Nat.mul_comm]; exact hq)
        have h2 : q % i.size < i.size := Nat.mod_lt _ hsz
        have h3 : (ry.getD (q / i.size) []).length = i.size := hsizeY _ (by
          have : ry[q / i.size]? = some (ry.getD (q / i.size) []) := by simp [List.getD, List.getElem?_eq_getElem h1]
          exact List.mem_of_getElem? this)
        have := q2 (q / i.size) (q % i.size) _ h1 h2 (List.getElem?_eq_getElem (by omega))
        rw [Nat.mul_comm, Nat.div_add_mod] at this
        exact this.one) hyn2 h63 (by rw [hjb]; exact hbytes)
    rw [hjs] at hs1 ht1
    obtain ⟨g', h'⟩ := h.row (dst := dst) (kill := kill) (W' := W') (v := v') (e := ⟨e, 0⟩) (n := (rx ++ ry).length) (T := T) (xs := xs ++ ys) (base := base) (n' := n') hd hb hm hn hg
      hCh (fun b' o' hc hf => by
        have hlt := fit o' b' hc hf
        rw [hcz] at hlt
        rcases hown with ⟨rfl, _⟩ | ⟨g0, cap, cur, fr, rfl, hg0, hnc, hcm, hcs, htake, _⟩
        · cases hc
        · simp only [Value.ownBlock, Option.some.injEq] at hc
          subst hc
          by_cases hsame : g0 = g1
          · subst hsame
            simp only [World.cell?, hg0, hg1]
            have e1 : cur.toList[o']? = old[o']? := by rw [← htake, List.getElem?_take_of_lt hlt]
            have e2 : cur1.toList[o']? = old[o']? := by
              have : (cur1.toList.take ((rx.length + ry.length) * i.size))[o']? = (old ++ (List.range (ry.length * i.size)).map vs)[o']? := by rw [ht1]
              rw [List.getElem?_take_of_lt (by rw [Nat.add_mul]; omega), List.getElem?_append_left (by rw [hol]; exact hlt)] at this
              exact this
            rw [Array.getElem?_toList] at e1 e2
            show cur1[o']? = cur[o']?
            rw [e1, e2]
          · -- the old block stands
            rcases hwhere with h1 | ⟨_, h1⟩
            · simp only [Value.ownBlock, Option.some.injEq] at h1; exact absurd h1 hsame
            · exact cell_of_block (h1 g0 (lt_of_heap hg0))) (show (0 : Nat) ≠ 2 by decide) (by
        refine .inr ⟨g1, cap1, cur1, (0, 0), by simpa using hv', hg1, by simpa using hn1, hc1, by rw [hcz]; exact hs1, hwhere.imp id (fun q => q.1), fun o' hf => ?_, fun h0 => absurd rfl h0, .inl rfl⟩
        rcases hwhere with h1 | ⟨h1, _⟩
        · have := fit o' g1 h1 hf
          refine Nat.lt_of_lt_of_le this (Nat.mul_le_mul_right _ (by simp))
        · have := h.b.fz _ _ hf; omega) (fun hk => by
        subst hv'
        refine hfinal ?_
        refine RD.ofCells (vs := cur1.toList) (by simp) hn1 hsz ?_ ?_ ?_ ?_
        · intro c' hc'
          rcases List.mem_append.1 hc' with h1 | h1
          · exact hsizeX c' h1
          · exact hsizeY c' h1
        · intro q u hq hu
          refine ⟨by simp only [World.cell?, hg1]; rw [← Array.getElem?_toList]; exact hu, .inr ⟨rfl, ?_⟩⟩
          rw [hcz]; simpa using hq
        · simp; rw [hs1]; exact Nat.mul_le_mul_right _ hn1
        · intro i' j' u d hi' hj' hu hd'
          have hlt : i' * i.size + j' < (rx.length + ry.length) * i.size := by
            have : (i' + 1) * i.size ≤ (rx.length + ry.length) * i.size := Nat.mul_le_mul_right _ hi'
            rw [Nat.add_mul] at this; omega
          have hu' : (old ++ (List.range (ry.length * i.size)).map vs)[i' * i.size + j']? = some u := by rw [← ht1, List.getElem?_take_of_lt hlt]; exact hu
          by_cases hx' : i' < rx.length
          · rw [List.getElem?_append_left (by
              rw [hol]
              have : (i' + 1) * i.size ≤ rx.length * i.size := Nat.mul_le_mul_right _ hx'
              rw [Nat.add_mul] at this; omega)] at hu'
            refine (hold i' j' u d hx' hj' hu' ?_).keep hk
            rw [List.getD, List.getElem?_append_left hx'] at hd'
            exact hd'
          · have hge : rx.length ≤ i' := by omega
            rw [List.getElem?_append_right (by rw [hol]; exact Nat.le_trans (Nat.mul_le_mul_right _ hge) (Nat.le_add_right _ _)), hol] at hu'
            have e1 : i' * i.size + j' - rx.length * i.size = (i' - rx.length) * i.size + j' := by
              rw [Nat.sub_mul]
              have := Nat.mul_le_mul_right i.size hge
              omega
            rw [e1] at hu'
            have hlt2 : (i' - rx.length) * i.size + j' < ry.length * i.size := by
              have : (i' - rx.length + 1) * i.size ≤ ry.length * i.size := Nat.mul_le_mul_right _ (by omega)
              rw [Nat.add_mul] at this; omega
            simp [hlt2] at hu'
            rw [← hu']
            refine (q2 (i' - rx.length) j' d (by omega) hj' ?_).keep hk
            rw [List.getD, List.getElem?_append_right hge] at hd'
            exact hd')
    exact ⟨v', W', g', hr, h'⟩
end
end Zed
