/- Texts ZedQ, ZedR, ZedS, ZedT, ZedU of our own machine for the walk of WholeChallenges, one behind the other. -/
import Derived.Test.YtiammpabkpoidaaGreatW11
namespace Zed
open Go
set_option linter.unusedVariables false
set_option linter.unusedSimpArgs false

/-- An operation that has been told: its place, what it does, its first number, how many numbers it takes. -/
structure Step where
  i : Nat
  st : Stp
  base : Nat
  n : Nat

noncomputable def Eff.keys (e : Eff) : List Nat := e.kill ++ e.add.map (·.1) ++ e.put.map (·.1)

section
variable {P : Program} {tab : Tab} {ops : Array Oper} {orc : Nat → Option Ch}

noncomputable def S.after (s : S) (o : Oper) (x : Step) : S := s.go o.dst x.st.z x.st.e (used s.us x.base x.n)

/-- The operations one behind the other. -/
noncomputable def RunT (P : Program) (tab : Tab) (ops : Array Oper) (orc : Nat → Option Ch) : List Step → S → S → Prop
  | [], s, s' => s = s'
  | x :: l, s, s' => ∃ o, ops[x.i]? = some o ∧ stpZ P tab ops x.base (orc x.i) s o = some (x.st, x.n) ∧ holds x.st.C ∧ (∀ j, j < x.n → ¬ s.us (x.base + j)) ∧ RunT P tab ops orc l (s.after o x) s'

noncomputable def disj (l m : List Nat) : Prop := ∀ k ∈ l, k ∉ m

/-- Two operations that don't touch what the other one touches. -/
structure Apart (ops : Array Oper) (x y : Step) : Prop where
  ops : ∀ ox oy, ops[x.i]? = some ox → ops[y.i]? = some oy → ox.apart ops oy = true
  xy : disj x.st.e.keys (y.st.rd ++ y.st.e.keys)
  yx : disj y.st.e.keys x.st.rd
  num : ∀ j k, j < x.n → k < y.n → x.base + j ≠ y.base + k

theorem lv_ne {e : Eff} {f : Nat → Option Ow} {k : Nat} (h : k ∉ e.keys) : e.lv f k = f k := by
  have h1 : look e.add k = none := by
    cases hl : look e.add k with
    | none => rfl
    | some t => exact absurd (by simp only [Eff.keys, List.mem_append]; exact .inl (.inr (List.mem_map.2 ⟨_, look_mem hl, rfl⟩))) h
  have h2 : e.kill.contains k = false := by
    simp only [Eff.keys, List.mem_append, not_or] at h
    simpa using h.1.1
  simp only [Eff.lv, h1]
  rw [h2]
  rfl
theorem bv_ne {e : Eff} {f : Nat → Option (List Z1)} {k : Nat} (h : k ∉ e.keys) : e.bv f k = f k := by
  have h1 : look e.put k = none := by
    cases hl : look e.put k with
    | none => rfl
    | some t => exact absurd (by simp only [Eff.keys, List.mem_append]; exact .inr (List.mem_map.2 ⟨_, look_mem hl, rfl⟩)) h
  simp [Eff.bv, h1]
theorem lv_at {e : Eff} {f f' : Nat → Option Ow} {k : Nat} (h : f k = f' k) : e.lv f k = e.lv f' k := by simp only [Eff.lv, h]
theorem bv_at {e : Eff} {f f' : Nat → Option (List Z1)} {k : Nat} (h : f k = f' k) : e.bv f k = e.bv f' k := by simp only [Eff.bv, h]

theorem lv_comm {e e' : Eff} (h : disj e.keys e'.keys) (f : Nat → Option Ow) : e.lv (e'.lv f) = e'.lv (e.lv f) := by
  funext k
  by_cases h1 : k ∈ e.keys
  · rw [lv_ne (e := e') (h k h1)]; exact lv_at (lv_ne (h k h1))
  · rw [lv_ne h1]; exact lv_at (lv_ne h1).symm
theorem bv_comm {e e' : Eff} (h : disj e.keys e'.keys) (f : Nat → Option (List Z1)) : e.bv (e'.bv f) = e'.bv (e.bv f) := by
  funext k
  by_cases h1 : k ∈ e.keys
  · rw [bv_ne (e := e') (h k h1)]; exact bv_at (bv_ne (h k h1))
  · rw [bv_ne h1]; exact bv_at (bv_ne h1).symm

theorem putD_comm {α : Type} (f : Nat → α) {d d' : Option Nat} (x y : α) (h : ∀ k, d = some k → d' ≠ some k) : putD (putD f d x) d' y = putD (putD f d' y) d x := by
  cases d with
  | none => rfl
  | some k =>
    cases d' with
    | none => rfl
    | some k' =>
      have hne : k ≠ k' := fun e => h k rfl (by rw [e])
      funext j
      simp only [putD, setN]
      by_cases h1 : j = k <;> by_cases h2 : j = k' <;> simp_all
theorem putD_ne {α : Type} (f : Nat → α) {d : Option Nat} (x : α) {t : Nat} (h : d ≠ some t) : putD f d x t = f t := by
  cases d with
  | none => rfl
  | some k => simp only [putD]; exact setN_ne _ _ (fun e => h (by rw [e]))

theorem stpZ_local {base : Nat} {ch : Option Ch} {s s' : S} {o : Oper} {st : Stp} {n : Nat} (h : ∀ t, t ∈ o.looksAt ops → s.sl t = s'.sl t)
    (hz : stpZ P tab ops base ch s o = some (st, n)) (hk : ∀ k ∈ st.rd, s.live k = s'.live k ∧ s.bx k = s'.bx k) : stpZ P tab ops base ch s' o = some (st, n) := by
  have hw : wantZ ops s'.sl o = wantZ ops s.sl o := by
    unfold wantZ
    cases hg : o.guard with
    | none => rfl
    | some p =>
      obtain ⟨j, w⟩ := p
      simp only
      cases hd : (ops[j]?).bind (·.dst) with
      | none => rfl
      | some d => 
        simp only
        rw [← h d (by simp [Oper.looksAt, hg, hd])]
  unfold stpZ at hz ⊢
  rw [hw]
  split at hz
  · exact opZ_local (fun t ht => h t (by simp only [Oper.looksAt, List.mem_append, List.mem_filterMap]; exact .inl ⟨_, ht, rfl⟩)) hz hk
  · exact hz
  · cases hz

/-- Two that are apart may change places. -/
theorem swap {x y : Step} {l : List Step} {s s' : S} (h : RunT P tab ops orc (x :: y :: l) s s') (hap : Apart ops x y) : RunT P tab ops orc (y :: x :: l) s s' := by
  obtain ⟨ox, hx1, hx2, hx3, hx4, oy, hy1, hy2, hy3, hy4, hl⟩ := h
  obtain ⟨a1, a2, a3⟩ := Oper.apart_spec (hap.ops ox oy hx1 hy1)
  have e1 : stpZ P tab ops y.base (orc y.i) s oy = some (y.st, y.n) := stpZ_local (s := s.after ox x) (fun t ht => putD_ne _ _ (fun e => a1 t e ht)) hy2
    (fun k hk => ⟨lv_ne (fun q => hap.xy k q (List.mem_append.2 (.inl hk))), bv_ne (fun q => hap.xy k q (List.mem_append.2 (.inl hk)))⟩)
  have e2 : stpZ P tab ops x.base (orc x.i) (s.after oy y) ox = some (x.st, x.n) := stpZ_local (s := s) (fun t ht => (putD_ne _ _ (fun e => a3 t e ht)).symm) hx2
    (fun k hk => ⟨(lv_ne (fun q => hap.yx k q hk)).symm, (bv_ne (fun q => hap.yx k q hk)).symm⟩)
  have hkk : disj x.st.e.keys y.st.e.keys := fun k hk hk' => hap.xy k hk (List.mem_append.2 (.inr hk'))
  have e3 : (s.after ox x).after oy y = (s.after oy y).after ox x := by
    simp only [S.after, S.go, S.mk.injEq]
    refine ⟨putD_comm _ _ _ a2, (lv_comm hkk _).symm, (bv_comm hkk _).symm, ?_⟩
    funext k
    simp only [used, eq_iff_iff]
    constructor <;> intro h <;> rcases h with (h | h) | h <;> simp [h]
  refine ⟨oy, hy1, e1, hy3, fun j hj q => hy4 j hj (.inl q), ox, hx1, e2, hx3, fun j hj q => ?_, by rw [← e3]; exact hl⟩
  rcases q with q | q
  · exact hx4 j hj q
  · have := hap.num j (x.base + j - y.base) hj (by omega)
    omega

/-- One may come first, that is apart from all ahead of it. -/
theorem bubble {y : Step} {l : List Step} {s' : S} : ∀ {m : List Step} {s : S}, RunT P tab ops orc (m ++ y :: l) s s' → (∀ x ∈ m, Apart ops x y) → RunT P tab ops orc (y :: (m ++ l)) s s'
  | [], _, h, _ => h
  | x :: m, s, h, hap => by
    obtain ⟨ox, hx1, hx2, hx3, hx4, hl⟩ := h
    have := bubble hl (fun z hz => hap z (List.mem_cons_of_mem _ hz))
    exact swap ⟨ox, hx1, hx2, hx3, hx4, this⟩ (hap x List.mem_cons_self)
end
end Zed
namespace Zed
open Go
set_option linter.unusedVariables false
set_option linter.unusedSimpArgs false

/-- Which operations must have come, as bits: for each operation of a region. -/
noncomputable def maskOf (ms : List Nat) : List Edge → Nat
  | [] => 0
  | e :: r => if Region.binds .any e then (2 ^ e.on) ||| ms.getD e.on 0 ||| maskOf ms r else maskOf ms r
noncomputable def masks : List Oper → List Nat → List Nat
  | [], ms => ms
  | o :: r, ms => masks r (ms ++ [maskOf ms o.after.toList])

theorem testBit_maskOf {ms : List Nat} {j : Nat} : ∀ {l : List Edge}, (maskOf ms l).testBit j = true → ∃ e ∈ l, Region.binds .any e = true ∧ (j = e.on ∨ (ms.getD e.on 0).testBit j = true)
  | [], h => by simp [maskOf] at h
  | e :: r, h => by
    simp only [maskOf] at h
    split at h
    · rename_i hb
      simp only [Nat.testBit_or, Bool.or_eq_true, Nat.testBit_two_pow] at h
      rcases h with (h | h) | h
      · refine ⟨e, List.mem_cons_self, hb, .inl ?_⟩
        simp at h
        exact h.symm
      · exact ⟨e, List.mem_cons_self, hb, .inr h⟩
      · obtain ⟨e', h1, h2⟩ := testBit_maskOf h
        exact ⟨e', List.mem_cons_of_mem _ h1, h2⟩
    · obtain ⟨e', h1, h2⟩ := testBit_maskOf h
      exact ⟨e', List.mem_cons_of_mem _ h1, h2⟩

section
variable {ops : Array Oper}

/-- What the bits say. -/
noncomputable def MaskOk (ops : Array Oper) (ms : List Nat) : Prop := ∀ i m o, ms[i]? = some m → ops[i]? = some o → ∀ j, m.testBit j = true → ∃ e ∈ o.after.toList, Region.binds .any e = true ∧ (j = e.on ∨ (e.on < i ∧ (ms.getD e.on 0).testBit j = true))

theorem masks_ok : ∀ (l : List Oper) (ms : List Nat), (∀ k, ops[ms.length + k]? = l[k]?) → MaskOk ops ms → MaskOk ops (masks l ms) ∧ (masks l ms).length = ms.length + l.length
  | [], ms, _, h => ⟨h, rfl⟩
  | o :: r, ms, hl, h => by
    have h' : MaskOk ops (ms ++ [maskOf ms o.after.toList]) := by
      intro i m o' hm ho j hj
      by_cases hi : i < ms.length
      · rw [List.getElem?_append_left hi] at hm
        obtain ⟨e, h1, h2, h3⟩ := h i m o' hm ho j hj
        refine ⟨e, h1, h2, h3.imp id (fun ⟨q1, q2⟩ => ⟨q1, ?_⟩)⟩
        rw [List.getD, List.getElem?_append_left (by omega)]
        exact q2
      · have hi' : i = ms.length := by
          have := (List.getElem?_eq_some_iff.1 hm).1
          simp at this; omega
        subst hi'
        simp at hm
        subst hm
        have ho' : o' = o := by
          have := hl 0
          simp at this
          rw [this] at ho
          exact (Option.some.inj ho).symm
        subst ho'
        obtain ⟨e, h1, h2, h3⟩ := testBit_maskOf hj
        refine ⟨e, h1, h2, h3.imp id (fun q => ?_)⟩
        have hlt : e.on < ms.length := by
          rcases Nat.lt_or_ge e.on ms.length with q1 | q1
          · exact q1
          · rw [List.getD, List.getElem?_eq_none q1] at q; simp at q
        refine ⟨hlt, ?_⟩
        rw [List.getD, List.getElem?_append_left hlt]
        exact q
    obtain ⟨h1, h2⟩ := masks_ok r (ms ++ [maskOf ms o.after.toList]) (fun k => by
      have := hl (k + 1)
      simp only [List.length_append, List.length_cons, List.length_nil]
      rw [show ms.length + (0 + 1) + k = ms.length + (k + 1) from by omega, this]
      rfl) h'
    exact ⟨h1, by rw [masks, h2]; simp; omega⟩

/-- Whoever is listed, so are those that must have come ahead. -/
noncomputable def Closed (ops : Array Oper) (listed : Array Bool) : Prop := ∀ i o, ops[i]? = some o → listed.getD i false = true → ∀ e ∈ o.after.toList, Region.binds .any e = true → listed.getD e.on false = true

theorem mask_listed {ms : List Nat} {listed : Array Bool} (hms : MaskOk ops ms) (hcl : Closed ops listed) : ∀ (i : Nat) (o : Oper) (m : Nat), ops[i]? = some o → ms[i]? = some m →
    (∀ e ∈ o.after.toList, Region.binds .any e = true → listed.getD e.on false = true) → ∀ j, m.testBit j = true → listed.getD j false = true := by
  intro i
  induction i using Nat.strongRecOn with
  | _ i ih =>
    intro o m ho hm hall j hj
    obtain ⟨e, h1, h2, h3 | ⟨h3, h4⟩⟩ := hms i m o hm ho j hj
    · rw [h3]; exact hall e h1 h2
    · have hl := hall e h1 h2
      have hi : i < ops.size := (Array.getElem?_eq_some_iff.1 ho).1
      have ho' : ops[e.on]? = some ops[e.on] := Array.getElem?_eq_getElem (by omega)
      have hm' : ms[e.on]? = some (ms.getD e.on 0) := by
        cases hq : ms[e.on]? with
        | none => rw [List.getD, hq] at h4; simp at h4
        | some m' => simp [List.getD, hq]
      exact ih e.on h3 _ _ ho' hm' (hcl _ _ ho' hl) j h4
end

/-! The check. -/
noncomputable def disjB (l m : List Nat) : Bool := l.all fun k => !(m.contains k)
theorem disj_of {l m : List Nat} (h : disjB l m = true) : disj l m := by
  intro k hk hm
  have := List.all_eq_true.1 h k hk
  simp [hm] at this

noncomputable def apartB (ops : Array Oper) (ox oy : Oper) (x y : Step) : Bool :=
  ox.apart ops oy && disjB x.st.e.keys (y.st.rd ++ y.st.e.keys) && disjB y.st.e.keys x.st.rd

/-- All that aren't told to wait are apart. -/
noncomputable def pairsOk (ops : Array Oper) (ms : List Nat) : List Step → Bool
  | [] => true
  | x :: l => l.all (fun y => (ms.getD y.i 0).testBit x.i || (match ops[x.i]?, ops[y.i]? with
      | some ox, some oy => apartB ops ox oy x y
      | _, _ => false)) && pairsOk ops ms l
noncomputable def backOk (ops : Array Oper) : Nat → List Oper → Bool
  | _, [] => true
  | i, o :: r => o.after.toList.all (fun e => !(Region.binds .any e) || e.on.blt i) && backOk ops (i + 1) r

/-- Numbers one behind the other. -/
noncomputable def NumUp : Nat → List Step → Prop
  | _, [] => True
  | b, x :: l => b ≤ x.base ∧ NumUp (x.base + x.n) l
theorem NumUp.le : ∀ {l : List Step} {b : Nat}, NumUp b l → ∀ y ∈ l, b ≤ y.base
  | [], _, _, _, hy => by cases hy
  | _ :: _, _, h, y, hy => by
    rcases List.mem_cons.1 hy with rfl | hy
    · exact h.1
    · have := NumUp.le h.2 y hy; have := h.1; omega
theorem NumUp.pair : ∀ {l : List Step} {b : Nat}, NumUp b l → l.Pairwise (fun x y => x.base + x.n ≤ y.base)
  | [], _, _ => .nil
  | x :: l, b, h => .cons (fun y hy => NumUp.le h.2 y hy) (NumUp.pair h.2)

theorem pairsOk_spec {ops : Array Oper} {ms : List Nat} : ∀ {l : List Step}, pairsOk ops ms l = true → l.Pairwise (fun x y => x.base + x.n ≤ y.base) → l.Pairwise (fun x y => (ms.getD y.i 0).testBit x.i = true ∨ Apart ops x y)
  | [], _, _ => .nil
  | x :: l, h, hn => by
    simp only [pairsOk, Bool.and_eq_true, List.all_eq_true, Bool.or_eq_true] at h
    obtain ⟨h1, h2⟩ := h
    cases hn with
    | cons hn1 hn2 =>
      refine .cons (fun y hy => (h1 y hy).imp id (fun q => ?_)) (pairsOk_spec h2 hn2)
      split at q
      · rename_i ox oy e1 e2
        simp only [apartB, Bool.and_eq_true] at q
        refine ⟨fun ox' oy' q1 q2 => ?_, disj_of q.1.2, disj_of q.2, fun j k hj hk => ?_⟩
        · rw [e1] at q1; rw [e2] at q2; cases q1; cases q2; exact q.1.1
        · have := hn1 y hy; omega
      · cases q
end Zed
namespace Zed
open Go
set_option linter.unusedVariables false
set_option linter.unusedSimpArgs false

section
variable {P : Program} {tab : Tab} {E : Ent} {g : G} {s : S} {a : Act} {W : World} {ops : Array Oper} {orc : Nat → Option Ch}

/-- Only a normal end is looked at. -/
noncomputable def Nrm (K : Act → World → Prop) : Exit → Act → World → Prop
  | .normal, a, w => K a w
  | _, _, _ => False

noncomputable def DstOk (ops : Array Oper) (nt : Nat) : Prop := ∀ (i : Nat) (o : Oper), ops[i]? = some o → ∀ d, o.dst = some d → d < nt

/-- In the text's order. -/
theorem ops_run (ht : TabOk P tab) (hd : DstOk ops E.nt) {K : Act → World → Prop} {s' : S} (hK : ∀ a W g, AI P E g s' a W → K a W) : ∀ {l : List Step} {s : S} {a : Act} {W : World} {g : G}, RunT P tab ops orc l s s' → AI P E g s a W →
    wpOps P ops (Nrm K) (l.map Step.i) a W
  | [], s, a, W, g, hr, h => by cases hr; exact hK a W g h
  | x :: l, s, a, W, g, hr, h => by
    obtain ⟨o, h1, h2, h3, h4, h5⟩ := hr
    rw [List.map_cons, wpOps_cons]
    exact wpOp_mono (fun a' W' ⟨g', h'⟩ => ops_run ht hd hK h5 h') (stpZ_wp ht h h1 h2 h3 (hd _ o h1) h4)

theorem getD_set {listed : Array Bool} {i k : Nat} (hi : i < listed.size) : (listed.setIfInBounds i true).getD k false = if i = k then true else listed.getD k false := by
  simp only [Array.getD_eq_getD_getElem?, Array.getElem?_setIfInBounds]
  split
  · rename_i h; subst h; simp [hi]
  · rfl

/-- In any order. -/
theorem any_run (ht : TabOk P tab) (hd : DstOk ops E.nt) {K : Act → World → Prop} {s' : S} (hK : ∀ a W g, AI P E g s' a W → K a W) {ms : List Nat} (hms : MaskOk ops ms) (hml : ms.length = ops.size)
    (hback : ∀ i o, ops[i]? = some o → ∀ e ∈ o.after.toList, Region.binds .any e = true → e.on < i) : ∀ (fuel : Nat) {l : List Step} {listed : Array Bool} {s : S} {a : Act} {W : World} {g : G},
    RunT P tab ops orc l s s' → AI P E g s a W → l.length ≤ fuel → listed.size = ops.size → Closed ops listed →
    (∀ i, i < ops.size → (listed.getD i false = false ↔ ∃ x ∈ l, x.i = i)) → (∀ x ∈ l, x.i < ops.size) → l.Pairwise (fun x y => x.i < y.i) → l.Pairwise (fun x y => (ms.getD y.i 0).testBit x.i = true ∨ Apart ops x y) →
    wpAny P .any ops (Nrm K) fuel listed a W := by
  have emp : ∀ {l : List Step} {listed : Array Bool}, listed.size = ops.size → (∀ i, i < ops.size → (listed.getD i false = false ↔ ∃ x ∈ l, x.i = i)) → (∀ x ∈ l, x.i < ops.size) → l.Pairwise (fun x y => x.i < y.i) → Region.ready .any ops listed = [] → l = [] := by
    intro l listed hsz hl hlt hp hr
    cases l with
    | nil => rfl
    | cons x l =>
      exfalso
      have hx := hlt x List.mem_cons_self
      have hmem : x.i ∈ Region.ready .any ops listed := by
        refine mem_ready.2 ⟨?_, ops[x.i], Array.getElem?_eq_getElem hx, fun e he hb => ?_⟩
        · have h1 := (hl x.i hx).2 ⟨x, List.mem_cons_self, rfl⟩
          have h2 : listed[x.i]? = some listed[x.i] := Array.getElem?_eq_getElem (by omega)
          simp only [Array.getD_eq_getD_getElem?, h2, Option.getD_some] at h1 ⊢
          exact h1
        · have hlt2 := hback x.i _ (Array.getElem?_eq_getElem hx) e (by simpa using he) hb
          cases hq : listed.getD e.on false with
          | true => rfl
          | false =>
            obtain ⟨y, hy, hyi⟩ := (hl e.on (by omega)).1 hq
            rcases List.mem_cons.1 hy with rfl | hy
            · omega
            · cases hp with
              | cons hp1 _ => have := hp1 y hy; omega
      rw [hr] at hmem; cases hmem
  intro fuel
  induction fuel with
  | zero =>
    intro l listed s a W g hr h hf hsz hcl hl hlt hp hap
    have : l = [] := List.eq_nil_of_length_eq_zero (by omega)
    subst this
    cases hr
    refine ⟨?_, hK a W g h⟩
    cases hrd : Region.ready .any ops listed with
    | nil => rfl
    | cons i r =>
      have hm : i ∈ Region.ready .any ops listed := by rw [hrd]; exact List.mem_cons_self
      obtain ⟨h1, o, ho, _⟩ := mem_ready.1 hm
      have hi : i < ops.size := (Array.getElem?_eq_some_iff.1 ho).1
      have h2 : listed[i]? = some listed[i] := Array.getElem?_eq_getElem (by omega)
      obtain ⟨x, hx, _⟩ := (hl i hi).1 (by simp only [Array.getD_eq_getD_getElem?, h2, Option.getD_some] at h1 ⊢; exact h1)
      cases hx
  | succ fuel ih =>
    intro l listed s a W g hr h hf hsz hcl hl hlt hp hap
    refine ⟨fun h0 => ?_, fun i hm => ?_⟩
    · have := emp hsz hl hlt hp h0
      subst this
      cases hr
      exact hK a W g h
    · obtain ⟨h1, o, ho, hall⟩ := mem_ready.1 hm
      have hi : i < ops.size := (Array.getElem?_eq_some_iff.1 ho).1
      have h2 : listed[i]? = some listed[i] := Array.getElem?_eq_getElem (by omega)
      obtain ⟨x, hx, hxi⟩ := (hl i hi).1 (by simp only [Array.getD_eq_getD_getElem?, h2, Option.getD_some] at h1 ⊢; exact h1)
      obtain ⟨l1, l2, rfl⟩ := List.append_of_mem hx
      have hp1 := List.pairwise_append.1 hp
      have hap1 := List.pairwise_append.1 hap
      have hmi : ms[i]? = some (ms.getD i 0) := by simp [List.getD, List.getElem?_eq_getElem (show i < ms.length by omega)]
      have hnot : ∀ y ∈ l1, Apart ops y x := by
        intro y hy
        rcases hap1.2.2 y hy x List.mem_cons_self with q | q
        · exfalso
          rw [hxi] at q
          have hlisted := mask_listed hms hcl i o _ ho hmi (fun e he hb => hall e (by simpa using he) hb) y.i q
          have hyl := (hl y.i (hlt y (List.mem_append_left _ hy))).2 ⟨y, List.mem_append_left _ hy, rfl⟩
          rw [hlisted] at hyl; cases hyl
        · exact q
      obtain ⟨o', q1, q2, q3, q4, q5⟩ := bubble hr hnot
      rw [hxi] at q1
      have hw := stpZ_wp ht (Q := Nrm K) h q1 q2 q3 (hd _ o' q1) q4
      refine wpOp_mono (fun a' W' ⟨g', h'⟩ => ?_) hw
      have hsub : (l1 ++ l2).Sublist (l1 ++ x :: l2) := List.Sublist.append (List.Sublist.refl _) (List.sublist_cons_self _ _)
      have hne : ∀ y ∈ l1 ++ l2, y.i ≠ i := by
        intro y hy
        rcases List.mem_append.1 hy with hy | hy
        · have := hp1.2.2 y hy x List.mem_cons_self; omega
        · have h3 := hp1.2.1
          cases h3 with
          | cons h4 _ => have := h4 y hy; omega
      refine ih q5 h' (by simp at hf ⊢; omega) (by simp [hsz]) (fun k ok hk hkl e he hb => ?_) (fun k hk => ?_) (fun y hy => hlt y (hsub.subset hy)) (hp.sublist hsub) (hap.sublist hsub)
      · rw [getD_set (by omega)] at hkl ⊢
        split
        · rfl
        · split at hkl
          · rename_i hik
            subst hik
            rw [ho] at hk
            cases hk
            exact hall e (by simpa using he) hb
          · exact hcl k ok hk hkl e he hb
      · rw [getD_set (by omega)]
        constructor
        · intro hkf
          split at hkf
          · cases hkf
          · rename_i hik
            obtain ⟨y, hy, hyk⟩ := (hl k hk).1 hkf
            refine ⟨y, ?_, hyk⟩
            rcases List.mem_append.1 hy with hy | hy
            · exact List.mem_append_left _ hy
            · rcases List.mem_cons.1 hy with rfl | hy
              · exact absurd (hxi.symm.trans hyk) hik
              · exact List.mem_append_right _ hy
        · rintro ⟨y, hy, hyk⟩
          rw [if_neg (fun q => hne y hy (by rw [hyk, q]))]
          exact (hl k hk).2 ⟨y, hsub.subset hy, hyk⟩
end
end Zed
namespace Zed
open Go
set_option linter.unusedVariables false
set_option linter.unusedSimpArgs false

structure St where
  sl : List (Nat × Z)
  live : List (Nat × Option Ow)
  bx : List (Nat × List Z1)
  nx : Nat
noncomputable def lvOf (l : List (Nat × Option Ow)) : Nat → Option Ow := fun k => (look l k).bind id
noncomputable def St.den (s : St) : S := ⟨look s.sl, lvOf s.live, look s.bx, (· < s.nx)⟩
noncomputable def consD {α : Type} (d : Option Nat) (x : α) (l : List (Nat × α)) : List (Nat × α) := match d with
  | some d => (d, x) :: l
  | none => l
noncomputable def St.go (s : St) (dst : Option Nat) (z : Z) (e : Eff) (n : Nat) : St :=
  { sl := consD dst z s.sl, live := (e.add.map fun p => (p.1, some p.2)) ++ ((e.kill.map fun k => (k, none)) ++ s.live), bx := e.put ++ s.bx, nx := s.nx + n }

theorem look_append {α : Type} : ∀ (l m : List (Nat × α)) (k : Nat), look (l ++ m) k = match look l k with
    | some x => some x
    | none => look m k
  | [], m, k => rfl
  | (i, x) :: l, m, k => by
    simp only [List.cons_append, look]
    split
    · rfl
    · exact look_append l m k
theorem look_addS : ∀ (l : List (Nat × Ow)) (k : Nat), look (l.map fun p => (p.1, some p.2)) k = (look l k).map some
  | [], _ => rfl
  | (i, x) :: l, k => by
    simp only [List.map_cons, look]
    split
    · rfl
    · exact look_addS l k
theorem look_killS : ∀ (l : List Nat) (k : Nat), look (l.map fun k => ((k, none) : Nat × Option Ow)) k = if l.contains k then some none else none
  | [], _ => by simp [look]
  | i :: l, k => by
    simp only [List.map_cons, look]
    by_cases h : i = k
    · subst h; simp
    · rw [if_neg h, look_killS l k]
      simp [Ne.symm h]

theorem St.go_den (s : St) (o : Oper) (st : Stp) (n i : Nat) : (s.go o.dst st.z st.e n).den = s.den.after o ⟨i, st, s.nx, n⟩ := by
  simp only [St.den, St.go, S.after, S.go, S.mk.injEq]
  refine ⟨?_, ?_, ?_, ?_⟩
  · cases o.dst with
    | none => rfl
    | some d =>
      funext t
      simp only [consD, look, putD, setN]
      by_cases h : d = t
      · subst h; simp
      · rw [if_neg h, if_neg (Ne.symm h)]
  · funext k
    simp only [lvOf, look_append, look_addS, look_killS, Eff.lv]
    cases look st.e.add k with
    | some x => rfl
    | none =>
      simp only [Option.map_none]
      by_cases h : st.e.kill.contains k = true
      · simp only [h, if_true]; rfl
      · simp only [h]; rfl
  · funext k
    simp only [look_append, Eff.bv]
    cases look st.e.put k <;> rfl
  · funext k
    simp only [used, eq_iff_iff]
    omega

noncomputable def AllC : List Prop → Prop
  | [] => True
  | p :: r => p ∧ AllC r
noncomputable def consC (c : Option CP) (C : List Prop) : List Prop := match c with
  | none => C
  | some c => c.p :: C
theorem allC_cons {c : Option CP} {C : List Prop} (h : AllC (consC c C)) : holds c ∧ AllC C := by
  cases c with
  | none => exact ⟨trivial, h⟩
  | some c => exact h

noncomputable def runZ (P : Program) (tab : Tab) (ops : Array Oper) (orc : List (Nat × Ch)) : Nat → List Oper → St → Option (St × List Step × List Prop)
  | _, [], s => some (s, [], [])
  | i, o :: r, s => match stpZ P tab ops s.nx (look orc i) s.den o with
    | some (st, n) => match runZ P tab ops orc (i + 1) r (s.go o.dst st.z st.e n) with
      | some (s', l, C) => some (s', ⟨i, st, s.nx, n⟩ :: l, consC st.C C)
      | none => none
    | none => none

section
variable {P : Program} {tab : Tab} {ops : Array Oper} {orc : List (Nat × Ch)}

theorem runZ_spec : ∀ {l : List Oper} {i : Nat} {s s' : St} {tr : List Step} {C : List Prop}, runZ P tab ops orc i l s = some (s', tr, C) → AllC C → (∀ k, ops[i + k]? = l[k]?) →
    RunT P tab ops (look orc) tr s.den s'.den ∧ tr.map Step.i = List.range' i l.length ∧ NumUp s.nx tr
  | [], i, s, s', tr, C, h, _, _ => by
    simp only [runZ, Option.some.injEq, Prod.mk.injEq] at h
    obtain ⟨rfl, rfl, rfl⟩ := h
    exact ⟨rfl, rfl, trivial⟩
  | o :: r, i, s, s', tr, C, h, hC, hl => by
    simp only [runZ] at h
    split at h
    · rename_i st n hst
      split at h
      · rename_i s2 l2 C2 hr
        simp only [Option.some.injEq, Prod.mk.injEq] at h
        obtain ⟨rfl, rfl, rfl⟩ := h
        obtain ⟨c1, c2⟩ := allC_cons hC
        obtain ⟨i1, i2, i3⟩ := runZ_spec hr c2 (fun k => by have := hl (k + 1); rw [show i + 1 + k = i + (k + 1) from by omega]; simpa using this)
        have h0 := hl 0
        simp only [Nat.add_zero, List.getElem?_cons_zero] at h0
        refine ⟨⟨o, h0, hst, c1, fun j hj q => by have : s.nx + j < s.nx := q; omega, ?_⟩, ?_, ⟨Nat.le_refl _, i3⟩⟩
        · rw [← St.go_den]; exact i1
        · simp [i2, List.range'_succ]
      · cases h
    · cases h

noncomputable def regOk (ops : Array Oper) (draw : Bool) (tr : List Step) : Bool := if draw then backOk ops 0 ops.toList && pairsOk ops (masks ops.toList []) tr else true
noncomputable def dstB (nt : Nat) (ops : Array Oper) : Bool := ops.toList.all fun o => match o.dst with
  | some d => d.blt nt
  | none => true
theorem dst_of {nt : Nat} (h : dstB nt ops = true) : DstOk ops nt := by
  intro i o ho d hd
  have := List.all_eq_true.1 h o (by rw [Array.mem_toList_iff]; exact Array.mem_of_getElem? ho)
  rw [hd] at this
  simpa using this

theorem back_of : ∀ {l : List Oper} {i : Nat}, backOk ops i l = true → ∀ k o, l[k]? = some o → ∀ e ∈ o.after.toList, Region.binds .any e = true → e.on < i + k
  | [], _, _, k, o, hk, _, _, _ => by cases k <;> cases hk
  | o' :: r, i, h, k, o, hk, e, he, hb => by
    simp only [backOk, Bool.and_eq_true, List.all_eq_true] at h
    cases k with
    | zero =>
      simp at hk; subst hk
      have := h.1 e he
      simp [hb] at this
      omega
    | succ k =>
      have := back_of h.2 k o (by simpa using hk) e he hb
      omega

/-- A REGION. -/
theorem region_run {E : Ent} {g : G} {a : Act} {W : World} (hmix : P.follows .mixedOrders = true) (ht : TabOk P tab) {s s' : St} {tr : List Step} {C : List Prop} {id : Nat} {draw : Bool}
    (hr : runZ P tab ops orc 0 ops.toList s = some (s', tr, C)) (hC : AllC C) (hok : regOk ops draw tr = true) (hd : dstB E.nt ops = true) (h : AI P E g s.den a W) :
    (Code.region id ops draw).wp P (Nrm fun a' W' => ∃ g', AI P E g' s'.den a' W') a W := by
  obtain ⟨h1, h2, h3⟩ := runZ_spec hr hC (fun k => by simp)
  have hd := dst_of hd
  cases draw with
  | false =>
    refine wp_region ?_
    have e : List.range ops.size = tr.map Step.i := by rw [h2, List.range_eq_range']; simp
    rw [e]
    exact ops_run ht hd (fun a W g h => ⟨g, h⟩) h1 h
  | true =>
    refine wp_region_any hmix ?_
    simp only [regOk, if_true, Bool.and_eq_true] at hok
    obtain ⟨hb, hp⟩ := hok
    obtain ⟨m1, m2⟩ := masks_ok (ops := ops) ops.toList [] (fun k => by simp) (fun i m o hm => by simp at hm)
    have hlen : tr.length = ops.size := by have := congrArg List.length h2; simpa using this
    have hW : AI P E g s.den a { W with drawn := W.drawn + 1 } := by
      have hk : Keeps g.F g.F W { W with drawn := W.drawn + 1 } := Keeps.drawn W _ _
      have hg := Goes.drawn W (W.drawn + 1)
      have := h.step (dst := none) (z := .no) (v := undef) (live' := s.den.live) (bx' := s.den.bx) (n' := s.den.us) (by simp) (fun _ q => q) hk (fun _ _ => rfl) (fun _ _ => rfl) (h.b.goes hg (fun _ => False.elim) hk (fun b o hf => .inl hf))
        (h.h.goes (n := s.den.us) hg hk (fun b o hf => .inl hf) (fun _ _ => rfl) (fun _ _ => rfl) (fun l e hl => ⟨h.liveLow l e hl, hl, fun _ _ q => q⟩) (fun i c hi => ⟨(h.boxLow i c (bc_some hi).1).1, hi, (h.boxLow i c (bc_some hi).1).2, fun q => q⟩)) (h.r.goes (n := s.den.us) h.h hg hk (fun _ _ => rfl) (fun i T xs e q1 q2 _ => ⟨(h.boxLow i _ q1).1, q1, q2, fun _ _ q => q⟩)) h.liveLow h.boxLow rfl trivial
      exact this
    have hidx : ∀ i, i < ops.size → ∃ x ∈ tr, x.i = i := by
      intro i hi
      have : i ∈ tr.map Step.i := by rw [h2]; simp; omega
      obtain ⟨x, hx, hxi⟩ := List.mem_map.1 this
      exact ⟨x, hx, hxi⟩
    have hlt : ∀ x ∈ tr, x.i < ops.size := by
      intro x hx
      have : x.i ∈ tr.map Step.i := List.mem_map.2 ⟨x, hx, rfl⟩
      rw [h2] at this
      simpa using this
    have hpw : tr.Pairwise (fun x y => x.i < y.i) := by
      have : (tr.map Step.i).Pairwise (· < ·) := by rw [h2]; exact List.pairwise_lt_range'
      exact List.pairwise_map.1 this
    refine any_run ht hd (fun a W g h => ⟨g, h⟩) m1 (by simpa using m2) (fun i o ho e he hbd => ?_) ops.size h1 hW (by omega) (by simp) (fun i o ho hl => ?_) (fun i hi => ?_) hlt hpw (pairsOk_spec hp h3.pair)
    · have := back_of hb i o (by simpa using ho) e he hbd
      omega
    · exfalso
      have hi : i < ops.size := (Array.getElem?_eq_some_iff.1 ho).1
      simp [hi] at hl
    · simp [hi]
      exact hidx i hi
end
end Zed
namespace Zed
open Go
set_option linter.unusedVariables false
set_option linter.unusedSimpArgs false

noncomputable def impLV (τ : List Nat) : List V1 → Option (List V1)
  | [] => some []
  | v :: r => match v.imp τ, impLV τ r with
    | some v', some r' => some (v' :: r')
    | _, _ => none
noncomputable def Z.imp (τ : List Nat) : Z → Option Z
  | .one v => (v.imp τ).map .one
  | .tup vs => (impLV τ vs).map .tup
  | .no => some .no
noncomputable def impSl (τ : List Nat) (sl : List (Nat × Z)) : List Nat → Option (List (Nat × Z))
  | [] => some []
  | t :: r => match (look sl t).bind (Z.imp τ), impSl τ sl r with
    | some z, some l => some ((t, z) :: l)
    | _, _ => none
/-- As 'impH', a number that stands for nothing left out. -/
noncomputable def impD (τ : List Nat) (live : Nat → Option Ow) (bx : Nat → Option (List Z1)) : Nat → List Nat → Option (List (Nat × Ow) × List (Nat × List Z1))
  | _, [] => some ([], [])
  | j, k :: r => match impD τ live bx (j + 1) r with
    | none => none
    | some (L, B) => match bx k with
      | some cs => (impL τ cs).map fun cs' => (match live k with
        | some e => (j, e) :: L
        | none => L, (j, cs') :: B)
      | none => match live k with
        | some e => some ((j, e) :: L, B)
        | none => some (L, B)
noncomputable def pinB : Nat → Nat → List Nat → Bool
  | 0, _, _ => true
  | n + 1, i, k :: r => k.beq i && pinB n (i + 1) r
  | _ + 1, _, [] => false
theorem pin_of : ∀ {n i : Nat} {l : List Nat}, pinB n i l = true → ∀ j, j < n → l[j]? = some (i + j)
  | n + 1, i, k :: r, h, j, hj => by
    simp only [pinB, Bool.and_eq_true, Nat.beq_eq] at h
    cases j with
    | zero => simp [h.1]
    | succ j =>
      have := pin_of h.2 j (by omega)
      simp only [List.getElem?_cons_succ]
      rw [this]; congr 1; omega
  | n + 1, i, [], h, _, _ => by simp [pinB] at h

noncomputable def renSt (pk : Nat) (keep μ : List Nat) (s : St) : Option St :=
  match impSl μ s.sl keep, impD μ (lvOf s.live) (look s.bx) 0 μ with
  | some sl, some (L, B) => if nodupB μ && pinB pk 0 μ then some ⟨sl, L.map fun p => (p.1, some p.2), B, μ.length⟩ else none
  | _, _ => none

section
variable {P : Program} {E : Ent} {g : G} {a : Act} {W : World}

theorem impL_low {τ : List Nat} : ∀ {cs cs' : List Z1}, impL τ cs = some cs' → ∀ z ∈ cs', z.below (· < τ.length)
  | [], cs', h, z, hz => by simp [impL] at h; subst h; cases hz
  | c :: r, cs', h, z, hz => by
    simp only [impL] at h
    split at h
    · rename_i c' r' h1 h2
      cases h
      rcases List.mem_cons.1 hz with rfl | hz
      · exact imp_low h1
      · exact impL_low h2 z hz
    · cases h
theorem impV1_low {τ : List Nat} {z z' : V1} (hz : z.imp τ = some z') : z'.below (· < τ.length) := by
  cases z with
  | c z => obtain ⟨w, h1, rfl⟩ := omap hz; exact imp_low h1
  | agg cs => obtain ⟨w, h1, rfl⟩ := omap hz; exact impL_low h1
theorem impLV_spec {τ : List Nat} : ∀ {vs vs' : List V1}, impLV τ vs = some vs' → vs.length = vs'.length ∧ ∀ (j : Nat) (z' : V1), vs'[j]? = some z' → ∃ z, vs[j]? = some z ∧ z.imp τ = some z'
  | [], vs', h => by simp [impLV] at h; subst h; simp
  | v :: r, vs', h => by
    simp only [impLV] at h
    split at h
    · rename_i v' r' h1 h2
      cases h
      obtain ⟨q1, q2⟩ := impLV_spec h2
      refine ⟨by simp [q1], fun j z' hz => ?_⟩
      cases j with
      | zero => simp at hz; subst hz; exact ⟨v, rfl, h1⟩
      | succ j => obtain ⟨z, p1, p2⟩ := q2 j z' (by simpa using hz); exact ⟨z, by simpa using p1, p2⟩
    · cases h
theorem impZ_rz {τ : List Nat} {v : Value} {z z' : Z} (h : RZ W g v z) (hz : z.imp τ = some z') : RZ W (g.via τ) v z' := by
  cases z with
  | one v => obtain ⟨w, h1, rfl⟩ := omap hz; exact impV1_rv h h1
  | tup vs =>
    obtain ⟨w, h1, rfl⟩ := omap hz
    obtain ⟨us, hv, hs, hr⟩ := h
    obtain ⟨q1, q2⟩ := impLV_spec h1
    refine ⟨us, hv, by omega, fun j u x hu hx => ?_⟩
    obtain ⟨z, p1, p2⟩ := q2 j x hx
    exact impV1_rv (hr j u z hu p1) p2
  | no => cases hz; exact h
theorem impZ_low {τ : List Nat} {z z' : Z} (hz : z.imp τ = some z') : z'.below (· < τ.length) := by
  cases z with
  | one v => obtain ⟨w, h1, rfl⟩ := omap hz; exact impV1_low h1
  | tup vs =>
    obtain ⟨w, h1, rfl⟩ := omap hz
    obtain ⟨q1, q2⟩ := impLV_spec h1
    intro x hx
    obtain ⟨j, hj⟩ := List.mem_iff_getElem?.1 hx
    obtain ⟨z, p1, p2⟩ := q2 j x hj
    exact impV1_low p2
  | no => cases hz; trivial

theorem impSl_spec {τ : List Nat} {sl : List (Nat × Z)} : ∀ {keep : List Nat} {l : List (Nat × Z)}, impSl τ sl keep = some l → ∀ t z', look l t = some z' → ∃ z, look sl t = some z ∧ z.imp τ = some z'
  | [], l, h, t, z', hz => by simp [impSl] at h; subst h; cases hz
  | k :: r, l, h, t, z', hz => by
    simp only [impSl] at h
    split at h
    · rename_i z l' h1 h2
      cases h
      simp only [look] at hz
      split at hz
      · rename_i hk; subst hk; cases hz
        exact obind h1
      · exact impSl_spec h2 t z' hz
    · cases h

theorem impD_spec {τ : List Nat} {live : Nat → Option Ow} {bx : Nat → Option (List Z1)} : ∀ {l : List Nat} {j0 : Nat} {L : List (Nat × Ow)} {B : List (Nat × List Z1)}, impD τ live bx j0 l = some (L, B) →
    (∀ j e, look L j = some e → j0 ≤ j ∧ ∃ k, l[j - j0]? = some k ∧ live k = some e) ∧
    (∀ j cs', look B j = some cs' → j0 ≤ j ∧ ∃ k cs, l[j - j0]? = some k ∧ bx k = some cs ∧ impL τ cs = some cs')
  | [], j0, L, B, h => by
    simp only [impD, Option.some.injEq, Prod.mk.injEq] at h
    obtain ⟨rfl, rfl⟩ := h
    exact ⟨by simp [look], by simp [look]⟩
  | k :: r, j0, L, B, h => by
    simp only [impD] at h
    split at h
    · cases h
    · rename_i L' B' hr
      obtain ⟨i1, i2⟩ := impD_spec hr
      have sh : ∀ j, j0 + 1 ≤ j → (k :: r)[j - j0]? = r[j - (j0 + 1)]? := by
        intro j hj
        rw [show j - j0 = (j - (j0 + 1)) + 1 from by omega]
        rfl
      have o1 : ∀ j e, look L' j = some e → j0 ≤ j ∧ ∃ k', (k :: r)[j - j0]? = some k' ∧ live k' = some e := fun j e he => by
        obtain ⟨q1, k', q2⟩ := i1 j e he
        exact ⟨by omega, k', by rw [sh j q1]; exact q2⟩
      have o2 : ∀ j cs', look B' j = some cs' → j0 ≤ j ∧ ∃ k' cs, (k :: r)[j - j0]? = some k' ∧ bx k' = some cs ∧ impL τ cs = some cs' := fun j c hj => by
        obtain ⟨q1, k', q2⟩ := i2 j c hj
        exact ⟨by omega, k', by rw [sh j q1]; exact q2⟩
      split at h
      · rename_i cs hb
        obtain ⟨cs', hc, e⟩ := omap h
        simp only [Prod.mk.injEq] at e
        obtain ⟨rfl, rfl⟩ := e
        refine ⟨fun j e he => ?_, fun j c hj => ?_⟩
        · cases hlk : live k with
          | none => rw [hlk] at he; exact o1 j e he
          | some e0 =>
            rw [hlk] at he
            simp only [look] at he
            split at he
            · rename_i e1; subst e1; cases he
              exact ⟨Nat.le_refl _, k, by simp, hlk⟩
            · exact o1 j e he
        simp only [look] at hj
        split at hj
        · rename_i e; subst e; cases hj
          exact ⟨Nat.le_refl _, k, cs, by simp, hb, hc⟩
        · exact o2 j c hj
      · rename_i hb
        split at h
        · rename_i e0 hc
          cases h
          refine ⟨fun j e he => ?_, o2⟩
          simp only [look] at he
          split at he
          · rename_i e; subst e; cases he
            exact ⟨Nat.le_refl _, k, by simp, hc⟩
          · exact o1 j e he
        · cases h
          exact ⟨o1, o2⟩

theorem lvOf_map (L : List (Nat × Ow)) : lvOf (L.map fun p => (p.1, some p.2)) = look L := by
  funext k
  simp only [lvOf, look_addS]
  cases look L k <;> rfl

theorem HR.via {τ : List Nat} {live : Nat → Option Ow} {bx : Nat → Option (List Z1)} (h : HR P g live bx W) {L : List (Nat × Ow)} {B : List (Nat × List Z1)}
    (i1 : ∀ j e, look L j = some e → ∃ k, τ[j]? = some k ∧ live k = some e) (i2 : ∀ j cs', look B j = some cs' → ∃ k cs, τ[j]? = some k ∧ bx k = some cs ∧ impL τ cs = some cs') : HR P (g.via τ) (look L) (look B) W := by
  intro j T xs e hj he hk
  obtain ⟨k, cs, h1, h2, h3⟩ := i2 j _ hj
  obtain ⟨k', h1', h2'⟩ := i1 j e he
  have hkk : k = k' := Option.some.inj (h1.symm.trans h1')
  subst hkk
  have := h k T xs e (by rw [h2, impL_run h3]) h2' hk
  show RowIs P W g.F e.e (g.ω (τ.getD j 0)) T xs
  rw [getD_of h1]; exact this
theorem HI.via {τ : List Nat} {live : Nat → Option Ow} {bx : Nat → Option (List Z1)} (h : HI P E g live (bc bx) W) (hnd : τ.Nodup) {L : List (Nat × Ow)} {B : List (Nat × List Z1)}
    (i1 : ∀ j e, look L j = some e → ∃ k, τ[j]? = some k ∧ live k = some e) (i2' : ∀ j cs', look B j = some cs' → ∃ k cs, τ[j]? = some k ∧ bx k = some cs ∧ impL τ cs = some cs') : HI P E (g.via τ) (look L) (bc (look B)) W := by
  have i2 : ∀ j cs', bc (look B) j = some cs' → ∃ k cs, τ[j]? = some k ∧ bc bx k = some cs ∧ impL τ cs = some cs' := fun j cs' hj => by
    obtain ⟨hj, hn⟩ := bc_some hj
    obtain ⟨k, cs, h1, h2, h3⟩ := i2' j cs' hj
    exact ⟨k, cs, h1, bc_of h2 (by rw [← isRun_imp h3]; exact hn), h3⟩
  have tInj : ∀ {j j' k : Nat}, τ[j]? = some k → τ[j']? = some k → j = j' := by
    intro j j' k hj hj'
    obtain ⟨h1, h2⟩ := List.getElem?_eq_some_iff.1 hj
    obtain ⟨h3, h4⟩ := List.getElem?_eq_some_iff.1 hj'
    exact (List.getElem_inj hnd).1 (h2.trans h4.symm)
  exact {
    own := fun j e he => by
      obtain ⟨k, h1, h2⟩ := i1 j e he
      show OwnV P W g.F (g.ω (τ.getD j 0)) e
      rw [getD_of h1]; exact h.own k e h2
    ownNe := fun j e j' e' he he' hne b hb1 hb2 => by
      obtain ⟨k, h1, h2⟩ := i1 j e he
      obtain ⟨k', h1', h2'⟩ := i1 j' e' he'
      have hb1 : (g.ω (τ.getD j 0)).ownBlock = some b := hb1
      have hb2 : (g.ω (τ.getD j' 0)).ownBlock = some b := hb2
      rw [getD_of h1] at hb1; rw [getD_of h1'] at hb2
      exact h.ownNe k e k' e' h2 h2' (fun q => hne (tInj h1 (q ▸ h1'))) b hb1 hb2
    ownMay := fun j e he b hb1 => by
      obtain ⟨k, h1, h2⟩ := i1 j e he
      have hb1 : (g.ω (τ.getD j 0)).ownBlock = some b := hb1
      rw [getD_of h1] at hb1
      exact h.ownMay k e h2 b hb1
    box := fun j cs' hj => by
      obtain ⟨k, cs, h1, h2, h3⟩ := i2 j cs' hj
      obtain ⟨q1, q3⟩ := h.box k cs h2
      show BoxIs W (g.via τ) (g.ρ (τ.getD j 0)) cs' ∧ ∀ o, ¬ g.F (g.ρ (τ.getD j 0)) o
      rw [getD_of h1]
      exact ⟨q1.imp h3, q3⟩
    boxNe := fun j j' c c' hj hj' hne hc => by
      obtain ⟨k, cs, h1, h2, h3⟩ := i2 j c hj
      obtain ⟨k', cs', h1', h2', h3'⟩ := i2 j' c' hj'
      have hc : g.ρ (τ.getD j 0) = g.ρ (τ.getD j' 0) := hc
      rw [getD_of h1, getD_of h1'] at hc
      exact h.boxNe k k' cs cs' h2 h2' (fun q => hne (tInj h1 (q ▸ h1'))) hc
    boxMay := fun j c hj => by
      obtain ⟨k, cs, h1, h2, h3⟩ := i2 j c hj
      show E.may (g.ρ (τ.getD j 0))
      rw [getD_of h1]
      exact h.boxMay k cs h2
    boxOwn := fun j c l e hj hl hc => by
      obtain ⟨k, cs, h1, h2, h3⟩ := i2 j c hj
      obtain ⟨k', h1', h2'⟩ := i1 l e hl
      have hc : (g.ω (τ.getD l 0)).ownBlock = some (g.ρ (τ.getD j 0)) := hc
      rw [getD_of h1, getD_of h1'] at hc
      exact h.boxOwn k cs k' e h2 h2' hc }

theorem AI.ren {s s' : St} {keep μ : List Nat} (h : AI P E g s.den a W) (hr : renSt E.pk keep μ s = some s') : AI P E (g.via μ) s'.den a W := by
  unfold renSt at hr
  split at hr
  case h_2 => cases hr
  rename_i sl L B hsl hLB
  split at hr
  case isFalse => cases hr
  rename_i hc
  cases hr
  simp only [Bool.and_eq_true] at hc
  have hnd := nodup_of hc.1
  obtain ⟨i1, i2⟩ := impD_spec hLB
  have i1' : ∀ j e, look L j = some e → ∃ k, μ[j]? = some k ∧ lvOf s.live k = some e := fun j e he => by
    obtain ⟨_, k, h1, h2⟩ := i1 j e he
    exact ⟨k, by simpa using h1, h2⟩
  have i2' : ∀ j cs', look B j = some cs' → ∃ k cs, μ[j]? = some k ∧ look s.bx k = some cs ∧ impL μ cs = some cs' := fun j c hj => by
    obtain ⟨_, k, cs, h1, h2⟩ := i2 j c hj
    exact ⟨k, cs, by simpa using h1, h2⟩
  have lt : ∀ {j k : Nat}, μ[j]? = some k → j < μ.length := fun hj => (List.getElem?_eq_some_iff.1 hj).1
  exact {
    defers := h.defers
    tsz := h.tsz
    slots := fun t z' hz => by
      obtain ⟨z, q1, q2⟩ := impSl_spec hsl t z' hz
      obtain ⟨v, p1, p2⟩ := h.slots t z q1
      exact ⟨v, p1, impZ_rz p2 q2⟩
    low := fun t z' hz => by
      obtain ⟨z, q1, q2⟩ := impSl_spec hsl t z' hz
      exact impZ_low q2
    liveLow := fun l e hl => by
      have hl : lvOf (L.map fun p => (p.1, some p.2)) l = some e := hl
      rw [lvOf_map] at hl
      obtain ⟨k, h1, _⟩ := i1' l e hl
      exact lt h1
    boxLow := fun id cs hid => by
      obtain ⟨k, c, h1, h2, h3⟩ := i2' id cs hid
      exact ⟨lt h1, impL_low h3⟩
    pkLow := fun j hj => lt (pin_of hc.2 j hj)
    pin := fun j hj => by
      have e := pin_of hc.2 j hj
      rw [Nat.zero_add] at e
      show g.ρ (μ.getD j 0) = _ ∧ g.ω (μ.getD j 0) = _
      rw [getD_of e]
      exact h.pin j hj
    b := h.b
    h := by
      show HI P E (g.via μ) (lvOf (L.map fun p => (p.1, some p.2))) (bc (look B)) W
      rw [lvOf_map]
      exact h.h.via hnd i1' i2'
    r := by
      show HR P (g.via μ) (lvOf (L.map fun p => (p.1, some p.2))) (look B) W
      rw [lvOf_map]
      exact h.r.via i1' i2' }
end
end Zed
