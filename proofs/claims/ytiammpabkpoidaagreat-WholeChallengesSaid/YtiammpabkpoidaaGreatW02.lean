/- Texts ZedKa of our own machine for the walk of WholeChallenges, one behind the other. -/
import Derived.Lib.AppendStr
import Derived.Lib.ConvBytes
import Derived.Test.YtiammpabkpoidaaGreatW01
namespace Zed
open Go
set_option linter.unusedVariables false
set_option linter.unusedSimpArgs false

theorem flat_len (T : K) : ∀ xs : List T.den, (xs.flatMap T.rrow).length = xs.length * T.size
  | [] => by simp
  | x :: xs => by simp only [List.flatMap_cons, List.length_append, K.rrow_length, flat_len T xs, List.length_cons, Nat.succ_mul]; omega
theorem flat_at (T : K) (hs : 0 < T.size) : ∀ (xs : List T.den) (q : Nat), (xs.flatMap T.rrow)[q]? = (xs[q / T.size]?).bind fun x => (T.rrow x)[q % T.size]?
  | [], q => by simp
  | x :: xs, q => by
    rw [List.flatMap_cons]
    by_cases h : q < T.size
    · rw [List.getElem?_append_left (by rw [K.rrow_length]; exact h), Nat.div_eq_of_lt h, Nat.mod_eq_of_lt h]; rfl
    · rw [List.getElem?_append_right (by rw [K.rrow_length]; omega), K.rrow_length, flat_at T hs xs (q - T.size)]
      have e1 : q / T.size = (q - T.size) / T.size + 1 := by rw [Nat.div_eq_sub_div hs (by omega)]
      have e2 : q % T.size = (q - T.size) % T.size := Nat.mod_eq_sub_mod (by omega)
      rw [e1, e2, List.getElem?_cons_succ]
theorem flat_ij (T : K) (hs : 0 < T.size) (xs : List T.den) (i j : Nat) (hj : j < T.size) : (xs.flatMap T.rrow)[i * T.size + j]? = (xs[i]?).bind fun x => (T.rrow x)[j]? := by
  rw [flat_at T hs]
  have e1 : (i * T.size + j) / T.size = i := by rw [Nat.mul_comm, Nat.mul_add_div hs, Nat.div_eq_of_lt hj]; rfl
  have e2 : (i * T.size + j) % T.size = j := by rw [Nat.mul_comm, Nat.mul_add_mod, Nat.mod_eq_of_lt hj]
  rw [e1, e2]

section
variable {P : Program} {tab : Tab} {E : Ent} {g : G} {s : S} {a : Act} {W W' : World} {F : Nat → Nat → Prop}

theorem Rel2.nil {α : Type} {R : Value → α → Prop} : Rel2 R [] ([] : List α) := ⟨rfl, by simp⟩
theorem Rel2.app {α : Type} {R : Value → α → Prop} {vs us : List Value} {cs ds : List α} (h : Rel2 R vs cs) (k : Rel2 R us ds) : Rel2 R (vs ++ us) (cs ++ ds) := Rel2.append_mk h k
theorem Rel2.keepD {F' : Nat → Nat → Prop} (k : Keeps F F' W W') {vs : List Value} {cs : List D} (h : Rel2 (RD W F) vs cs) : Rel2 (RD W' F') vs cs := h.mono fun _ _ q => q.keep k

/-- A data row's cells. -/
theorem RD.toFlat {v : Value} {T : K} {xs : List T.den} (h : RD W F v (X.sl T xs).raw) (hne : xs.length ≠ 0) :
    ∃ b o cap, v = .slice (some ⟨b, o, none⟩) xs.length cap ∧ 0 < T.size ∧ ∃ vals : List Value, (∀ q u, vals[q]? = some u → W.cell? ⟨b, o + q, none⟩ = some u) ∧ Rel2 (RD W F) vals (xs.flatMap T.rrow) := by
  have h : RD W F v (.sl T.size (xs.map T.rrow)) := h
  have hs : 0 < T.size := by
    obtain ⟨b, o, cap, _, hs, _⟩ := elem_of h (i := 0) (by simp; omega)
    exact hs
  obtain ⟨b, o, c, hv, vs, q1, q2⟩ := h.flat (.inl (by simpa using hne))
  rw [List.length_map] at hv q1
  refine ⟨b, o, c, hv, hs, (List.range (xs.length * T.size)).map vs, fun q u hq => ?_, ?_, fun q u d hq hd => ?_⟩
  · have hlt : q < xs.length * T.size := by
      rcases Nat.lt_or_ge q (xs.length * T.size) with h1 | h1
      · exact h1
      · simp [List.getElem?_eq_none (show ((List.range (xs.length * T.size))).length ≤ q by simpa using h1)] at hq
    simp [hlt] at hq
    rw [← hq]; exact q1 q hlt
  · rw [flat_len]; simp
  · have hlt : q < xs.length * T.size := by
      rcases Nat.lt_or_ge q (xs.length * T.size) with h1 | h1
      · exact h1
      · simp [List.getElem?_eq_none (show ((List.range (xs.length * T.size))).length ≤ q by simpa using h1)] at hq
    simp [hlt] at hq
    rw [flat_at T hs] at hd
    obtain ⟨x, hx, hd⟩ := obind hd
    have hi : q / T.size < xs.length := Nat.div_lt_of_lt_mul (by rw [Nat.mul_comm]; exact hlt)
    have := q2 (q / T.size) (q % T.size) d (by simpa using hi) (Nat.mod_lt _ hs) (by simp [List.getD, hx, hd])
    rw [Nat.mul_comm, Nat.div_add_mod, hq] at this
    exact this

/-- A data row out of its cells. -/
theorem RD.ofFlat {b n cap : Nat} {T : K} {xs : List T.den} {vals : List Value} (hn : xs.length = n) (hc : n ≤ cap) (hs : 0 < T.size) (hcell : ∀ q u, q < n * T.size → vals[q]? = some u → W.cell? ⟨b, q, none⟩ = some u ∧ F b q)
    (hr : Rel2 (RD W F) vals (xs.flatMap T.rrow)) : RD W F (.slice (some ⟨b, 0, none⟩) n cap) (X.sl T xs).raw := by
  show RD W F _ (.sl T.size (xs.map T.rrow))
  have hlen : vals.length = n * T.size := by rw [hr.1, flat_len, hn]
  refine RD.ofCells (vs := vals) (by simpa using hn) hc hs (fun c hc => ?_) hcell (by omega) (fun i j v d hi hj hv hd => ?_)
  · obtain ⟨x, _, rfl⟩ := List.mem_map.1 hc; exact K.rrow_length T x
  · refine hr.2 (i * T.size + j) v d hv ?_
    rw [flat_ij T hs xs i j hj]
    have hx : i < xs.length := by omega
    simp only [List.getD, List.getElem?_map, List.getElem?_eq_getElem hx, Option.map_some, Option.getD_some] at hd
    simp [hd, List.getElem?_eq_getElem hx]

theorem strCells_rel (s : ByteArray) : Rel2 (RD W F) (Lib.strCells s) ((s.data.toList.map fun b => (b.toNat : Int)).flatMap (K.int .u8).rrow) := by
  have e : (s.data.toList.map fun b => (b.toNat : Int)).flatMap (K.int .u8).rrow = s.data.toList.map fun b => D.int .u8 (b.toNat : Int) := by
    induction s.data.toList with
    | nil => rfl
    | cons x l ih => exact congrArg (D.int .u8 (x.toNat : Int) :: ·) ih
  rw [e]
  refine ⟨by simp [Lib.strCells], fun j v d h1 h2 => ?_⟩
  simp only [Lib.strCells, List.getElem?_map] at h1 h2
  cases hb : s.data.toList[j]? with
  | none => rw [hb] at h1; cases h1
  | some x => rw [hb] at h1 h2; cases h1; cases h2; exact .int _ _

/-- A row that may be written, new; it may stand in the block of one that is given up for it. -/
theorem AI.mrow (h : AI P E g s a W) {dst : Option Nat} {kill : Option Nat} {Ch : Nat → Prop} {v : Value} {e : TypeId} {T : K} {xs : List T.den} {base : Nat} {n' : Nat → Prop}
    (hd : ∀ d, dst = some d → d < E.nt) (hb : ¬ s.us base) (hm : ∀ k, s.us k → n' k) (hn : n' base) (hg : Goes W W' Ch)
    (hCh : ∀ b, Ch b → ∃ l0 e0, kill = some l0 ∧ s.live l0 = some e0 ∧ (g.ω l0).ownBlock = some b) (hnF : ∀ b, Ch b → ∀ o, ¬ g.F b o) (hT : 0 < T.size ∧ T.size = P.cellsOf e)
    (hv : (v = .slice none 0 0 ∧ xs = []) ∨ ∃ g0 cap cur, v = .slice (some ⟨g0, 0, none⟩) xs.length cap ∧ W'.heap[g0]? = some (.cells cur e (0, 0)) ∧ xs.length ≤ cap ∧ cap ≤ maxLen ∧ cur.size = cap * P.cellsOf e ∧ (Ch g0 ∨ W.heap.size ≤ g0) ∧
      (Keeps g.F g.F W W' → Rel2 (RD W' g.F) (cur.toList.take (xs.length * T.size)) (xs.flatMap T.rrow))) :
    ∃ g', AI P E g' (s.go dst (.one (.c (.row base T))) ⟨kill.toList, [(base, ⟨e, 2⟩)], [(base, [.run T xs])]⟩ n') (a.put dst v) W' := by
  have hk : Keeps g.F g.F W W' := Keeps.of_goes hg (fun b o hf => ⟨h.b.fz b o hf, fun hc => hnF b hc o hf⟩) (fun _ _ q => q)
  have hblk : ∀ b, v.ownBlock = some b → (Ch b ∨ W.heap.size ≤ b) ∧ b < W'.heap.size := by
    intro b hvb
    rcases hv with ⟨rfl, _⟩ | ⟨g0, cap, cur, rfl, hh, _, _, _, hc, _⟩
    · cases hvb
    · simp only [Value.ownBlock, Option.some.injEq] at hvb
      subst hvb
      exact ⟨hc, lt_of_heap hh⟩
  have chMay : ∀ b, Ch b → E.may b := fun b hc => by
    obtain ⟨l0, e0, _, h2, h3⟩ := hCh b hc
    exact h.h.ownMay l0 e0 h2 b h3
  have hω : ∀ i, s.us i → setN g.ω base v i = g.ω i := fun i hi => setN_ne _ _ (fun e => hb (e ▸ hi))
  have nob : s.bx base = none := by
    cases hq : s.bx base with
    | none => rfl
    | some c => exact absurd (h.boxLow base c hq).1 hb
  have hbc : bc ((⟨kill.toList, [(base, ⟨e, 2⟩)], [(base, [.run T xs])]⟩ : Eff).bv s.bx) = bc s.bx := by
    funext i
    unfold bc Eff.bv
    simp only [look]
    by_cases hib : base = i
    · subst hib; simp [nob, isRun]
    · simp [hib]
  have keepL : ∀ l e', (if kill.toList.contains l then none else s.live l) = some e' → s.live l = some e' ∧ ∀ b, (g.ω l).ownBlock = some b → ¬ Ch b := by
    intro l e' hl
    split at hl
    · cases hl
    · rename_i hne
      refine ⟨hl, fun b hbb hc => ?_⟩
      obtain ⟨l0, e0, hk0, h2, h3⟩ := hCh b hc
      have : l ≠ l0 := fun q => hne (by subst hk0; subst q; simp)
      exact h.h.ownNe l e' l0 e0 hl h2 this b hbb h3
  have h1 : HI P E ⟨g.F, g.ρ, setN g.ω base v⟩ (fun l => if kill.toList.contains l then none else s.live l) (bc s.bx) W' :=
    h.h.goes (n := s.us) hg hk (fun b o hf => .inl hf) (fun _ _ => rfl) hω
      (fun l e' hl => ⟨h.liveLow l e' (keepL l e' hl).1, (keepL l e' hl).1, (keepL l e' hl).2⟩)
      (fun i c hi => ⟨(h.boxLow i c (bc_some hi).1).1, hi, (h.boxLow i c (bc_some hi).1).2, fun hc => by
        obtain ⟨l0, e0, _, h2, h3⟩ := hCh _ hc
        exact h.h.boxOwn i c l0 e0 hi h2 h3⟩)
  have hown : OwnV P W' g.F v ⟨e, 2⟩ := by
    rcases hv with ⟨rfl, _⟩ | ⟨g0, cap, cur, rfl, hh, c1, c2, c3, hc, _⟩
    · exact .inl ⟨rfl, show (2 : Nat) ≠ 1 by decide⟩
    · have hnf : ∀ o, ¬ g.F g0 o := fun o hf => by
        rcases hc with hc | hc
        · exact hnF g0 hc o hf
        · have := h.b.fz _ _ hf; omega
      exact .inr ⟨g0, xs.length, cap, cur, (0, 0), rfl, hh, c1, c2, c3, fun o ho => absurd ho (hnf o), fun (q : (2 : Nat) = 1) => absurd q (by decide), .inl rfl, fun _ => ⟨rfl, hnf⟩⟩
  have h2 : HI P E ⟨g.F, g.ρ, setN g.ω base v⟩ (fun i => if i = base then some ⟨e, 2⟩ else none) (fun _ => none) W' :=
    HI.one_own (setN_same _ _ _) hown (fun b hvb => (hblk b hvb).1.elim (chMay b) (fun q => .inr (Nat.le_trans h.b.size q)))
  refine ⟨⟨g.F, g.ρ, setN g.ω base v⟩, h.step hd hm hk (fun _ _ => rfl) hω (h.b.goes hg chMay hk (fun b o hf => .inl hf))
    (by
      rw [hbc]
      refine h1.union h2 (fun l e' hl => ?_) (fun i c hi => .inl hi) (fun l e1 l' e2 hl hl' b hb1 hb2 => ?_) (fun _ _ _ _ _ hi => by cases hi) (fun i c l e' hi hl hc => ?_) (fun _ _ _ _ hi => by cases hi)
      · simp only [Eff.lv, look] at hl
        by_cases hlb : base = l
        · subst hlb; simp at hl; exact .inr (by simp [hl])
        · simp only [hlb, if_false] at hl; exact .inl hl
      · obtain ⟨q1, q2⟩ := keepL l e1 hl
        have hll := h.liveLow l e1 q1
        by_cases hlb : l' = base
        · subst hlb
          have hb1' : (g.ω l).ownBlock = some b := by rw [← hω l hll]; exact hb1
          have hb2' : v.ownBlock = some b := by rw [← setN_same g.ω l' v]; exact hb2
          rcases (hblk b hb2').1 with hc | hc
          · exact q2 b hb1' hc
          · have := (h.h.own l e1 q1).lt hb1'; omega
        · simp [hlb] at hl'
      · by_cases hlb : l = base
        · subst hlb
          have hc' : v.ownBlock = some (g.ρ i) := by rw [← setN_same g.ω l v]; exact hc
          have hh := (h.h.box i c hi).1.lt
          rcases (hblk _ hc').1 with hc2 | hc2
          · obtain ⟨l0, e0, _, p2, p3⟩ := hCh _ hc2
            exact h.h.boxOwn i c l0 e0 hi p2 p3
          · omega
        · simp [hlb] at hl) ?_ ?_ ?_ ?_ hn⟩
  · intro id T0 xs0 e0 q1 q2 q3
    simp only [Eff.bv, look] at q1
    simp only [Eff.lv, look] at q2
    by_cases hib : base = id
    · subst hib
      simp at q1 q2
      obtain ⟨rfl, q1⟩ := q1
      cases q1; cases q2
      show RowIs P W' g.F e (setN g.ω base v base) _ _
      rw [setN_same]
      refine hv.imp id ?_
      rintro ⟨g0, cap, cur, p1, p2, _, _, _, _, p3⟩
      exact ⟨hT, g0, cap, cur, (0, 0), p1, p2, p3 hk⟩
    · simp only [hib, if_false] at q1 q2
      obtain ⟨p1, p2⟩ := keepL id e0 q2
      have hu := (h.boxLow id _ q1).1
      show RowIs P W' g.F e0.e (setN g.ω base v id) T0 xs0
      rw [hω id hu]
      exact (h.r id T0 xs0 e0 q1 p1 q3).keep hk (fun b hb1 => hg.block b ((h.h.own id e0 p1).lt hb1) (p2 b hb1))
  · intro l e' hl
    simp only [Eff.lv, look] at hl
    by_cases hlb : base = l
    · subst hlb; exact hn
    · simp only [hlb, if_false] at hl
      exact hm l (h.liveLow l e' (keepL l e' hl).1)
  · intro i c hi
    simp only [Eff.bv, look] at hi
    by_cases hib : base = i
    · subst hib; simp at hi; subst hi; exact ⟨hn, fun z hz => by simp at hz; subst hz; trivial⟩
    · simp only [hib, if_false] at hi
      obtain ⟨q1, q2⟩ := h.boxLow i c hi
      exact ⟨hm i q1, fun z hz => Z1.below_mono hm (q2 z hz)⟩
  · refine ⟨setN_same _ _ _, ?_⟩
    rcases hv with ⟨rfl, _⟩ | ⟨g0, cap, cur, rfl, _⟩ <;> exact ⟨_, _, _, rfl⟩

/-- What is known of a row that may be written. -/
theorem AI.rowIs (h : AI P E g s a W) {l : Nat} {e : TypeId} {T : K} {xs : List T.den} (hl : s.live l = some ⟨e, 2⟩) (hb : s.bx l = some [.run T xs]) :
    (g.ω l = .slice none 0 0 ∧ xs = []) ∨ ((0 < T.size ∧ T.size = P.cellsOf e) ∧ ∃ b cap cur, g.ω l = .slice (some ⟨b, 0, none⟩) xs.length cap ∧ W.heap[b]? = some (.cells cur e (0, 0)) ∧ Rel2 (RD W g.F) (cur.toList.take (xs.length * T.size)) (xs.flatMap T.rrow) ∧
      xs.length ≤ cap ∧ cap ≤ maxLen ∧ cur.size = cap * P.cellsOf e ∧ ∀ o, ¬ g.F b o) := by
  rcases h.r l T xs ⟨e, 2⟩ hb hl rfl with h1 | ⟨h0, b, cap, cur, fr, h1, h2, h3⟩
  · exact .inl h1
  · rcases h.h.own l _ hl with ⟨q, _⟩ | ⟨g0, n, cap', cur', fr', q1, q2, q3, q4, q5, _, _, _, q6⟩
    · rw [h1] at q; cases q
    · rw [h1] at q1
      simp only [Value.slice.injEq, Option.some.injEq, Addr.mk.injEq] at q1
      obtain ⟨⟨rfl, _, _⟩, rfl, rfl⟩ := q1
      rw [h2] at q2
      cases q2
      obtain ⟨rfl, q7⟩ := q6 rfl
      exact .inr ⟨h0, b, cap, cur, h1, h2, h3, q3, q4, q5, q7⟩

/-- A row written: its label and its place stay. -/
theorem AI.rowSet (h : AI P E g s a W) {dst : Option Nat} {l : Nat} {e : TypeId} {T : K} {xs ys : List T.den} {n' : Nat → Prop} {b cap : Nat} {cur cur' : Array Value} (hd : ∀ d, dst = some d → d < E.nt) (hn : ∀ k, s.us k → n' k) (hl : s.live l = some ⟨e, 2⟩) (hb : s.bx l = some [.run T xs])
    (hω : g.ω l = .slice (some ⟨b, 0, none⟩) xs.length cap) (hh : W.heap[b]? = some (.cells cur e (0, 0))) (hlen : ys.length = xs.length) (hsz : cur'.size = cur.size)
    (hr : Rel2 (RD W g.F) (cur'.toList.take (xs.length * T.size)) (ys.flatMap T.rrow)) :
    AI P E g (s.go dst .no ⟨[], [], [(l, [.run T ys])]⟩ n') (a.put dst undef) (W.setRow b cur') := by
  obtain ⟨hT, hnF⟩ : (0 < T.size ∧ T.size = P.cellsOf e) ∧ ∀ o, ¬ g.F b o := by
    rcases h.rowIs hl hb with ⟨q, _⟩ | ⟨q0, b', cap', cur'', q1, _, _, _, _, _, q2⟩
    · rw [hω] at q; cases q
    · rw [hω] at q1; simp only [Value.slice.injEq, Option.some.injEq, Addr.mk.injEq] at q1
      obtain ⟨⟨rfl, _, _⟩, _⟩ := q1; exact ⟨q0, q2⟩
  have hblk : (g.ω l).ownBlock = some b := by rw [hω]; rfl
  have hg : Goes W (W.setRow b cur') (fun k => k = b) :=
    ⟨rfl, rfl, rfl, by simp [World.setRow], fun k hk hne => by simp [World.setRow, Array.getElem?_modify, Ne.symm hne]⟩
  have hk : Keeps g.F g.F W (W.setRow b cur') := Keeps.of_goes hg (fun k o hf => ⟨h.b.fz k o hf, fun e => hnF o (e ▸ hf)⟩) (fun _ _ => fun q => q)
  have hnew := setRow_heap W b cur cur' e (0, 0) hh
  have hbc : bc ((⟨[], [], [(l, [.run T ys])]⟩ : Eff).bv s.bx) = bc s.bx := by
    funext i
    unfold bc Eff.bv
    simp only [look]
    by_cases hib : l = i
    · subst hib; simp [hb, isRun]
    · simp [hib]
  have hlv : (⟨[], [], [(l, [.run T ys])]⟩ : Eff).lv s.live = s.live := by funext i; simp [Eff.lv, look]
  have hown : ∀ i e', s.live i = some e' → OwnV P (W.setRow b cur') g.F (g.ω i) e' := by
    intro i e' hi
    by_cases hil : i = l
    · subst hil
      rw [hl] at hi; cases hi
      rcases h.h.own i _ hl with ⟨q, _⟩ | ⟨g0, n, c1, cu, fr, q1, q2, q3, q4, q5, q6, q7, q8, q9⟩
      · rw [hω] at q; cases q
      · have q1' := q1
        rw [hω] at q1'; simp only [Value.slice.injEq, Option.some.injEq, Addr.mk.injEq] at q1'
        obtain ⟨⟨rfl, _, _⟩, rfl, rfl⟩ := q1'
        rw [hh] at q2; cases q2
        exact .inr ⟨b, xs.length, cap, cur', (0, 0), q1, hnew, q3, q4, by rw [hsz]; exact q5, q6, q7, .inl rfl, fun _ => ⟨rfl, hnF⟩⟩
    · rcases h.h.own i _ hi with q | ⟨g0, n, c1, cu, fr, q1, q2, q3, q4, q5, q6, q7, q8, q9⟩
      · exact .inl q
      · have hne : g0 ≠ b := fun q => h.h.ownNe i e' l _ hi hl hil b (by rw [q1, q]; rfl) hblk
        exact .inr ⟨g0, n, c1, cu, fr, q1, by rw [setRow_other W b g0 cur' hne]; exact q2, q3, q4, q5, q6, q7, q8, q9⟩
  have h3 : HI P E g s.live (bc s.bx) (W.setRow b cur') := {
    own := hown
    ownNe := h.h.ownNe, ownMay := h.h.ownMay, boxNe := h.h.boxNe, boxMay := h.h.boxMay, boxOwn := h.h.boxOwn
    box := fun i c hi => by
      obtain ⟨q1, q2⟩ := h.h.box i c hi
      have hne : g.ρ i ≠ b := fun q => h.h.boxOwn i c l _ hi hl (by rw [hblk, q])
      refine ⟨?_, q2⟩
      rcases q1 with ⟨vs, ty, p1, pz, p2⟩ | ⟨k, k', l', es, cl, p1, p2, p3⟩ | ⟨k, l', p1, p2, p3⟩
      · exact .inl ⟨vs, ty, by rw [setRow_other W b _ cur' hne]; exact p1, pz, p2.keep (n := s.us) hk (h.boxLow i c (bc_some hi).1).2 (fun _ _ => rfl) (fun _ _ => rfl)⟩
      · exact .inr (.inl ⟨k, k', l', es, cl, p1, by rw [setRow_other W b _ cur' hne]; exact p2, p3⟩)
      · exact .inr (.inr ⟨k, l', p1, by rw [setRow_other W b _ cur' hne]; exact p2, p3⟩) }
  refine h.step hd hn hk (fun _ _ => rfl) (fun _ _ => rfl) (h.b.goes hg (fun k hkb => hkb ▸ h.h.ownMay l _ hl b hblk) hk (fun b o hf => .inl hf)) (by rw [hbc, hlv]; exact h3) ?_ ?_ ?_ rfl trivial
  · intro i T0 xs0 e0 q1 q2 q3
    rw [hlv] at q2
    simp only [Eff.bv, look] at q1
    by_cases hil : l = i
    · subst hil
      simp at q1
      obtain ⟨rfl, q1⟩ := q1
      cases q1
      rw [hl] at q2; cases q2
      refine .inr ⟨hT, b, cap, cur', (0, 0), by rw [hlen]; exact hω, hnew, ?_⟩
      rw [hlen]
      exact hr.keepD hk
    · simp only [hil, if_false] at q1
      refine (h.r i T0 xs0 e0 q1 q2 q3).keep hk (fun k hk1 => setRow_other W b k cur' (fun q => ?_))
      subst q
      exact h.h.ownNe i e0 l _ q2 hl (Ne.symm hil) k hk1 hblk
  · intro i e' hi
    rw [hlv] at hi
    exact hn i (h.liveLow i e' hi)
  · intro i c hi
    simp only [Eff.bv, look] at hi
    by_cases hil : l = i
    · subst hil; simp at hi; subst hi
      exact ⟨hn l (h.boxLow l _ hb).1, fun z hz => by simp at hz; subst hz; trivial⟩
    · simp only [hil, if_false] at hi
      obtain ⟨q1, q2⟩ := h.boxLow i c hi
      exact ⟨hn i q1, fun z hz => Z1.below_mono hn (q2 z hz)⟩
end
end Zed
