/- ZED, ninth text: operations that make memory, or write it. -/
import Derived.Test.YtakamchmiakicaaDoorZedH
import Derived.Great.BuildSlice
import Derived.Laws.CopyRow
namespace Zed
open Go
set_option linter.unusedVariables false
set_option linter.unusedSimpArgs false

/-- What an operation does to the memory: rows that are no longer the call's, rows that are new, variables that are new or written. -/
structure Eff where
  kill : List Nat
  add : List (Nat × Ow)
  put : List (Nat × List Z1)
def Eff.no : Eff := ⟨[], [], []⟩
def Eff.lv (e : Eff) (f : Nat → Option Ow) : Nat → Option Ow := fun l => match look e.add l with
  | some t => some t
  | none => if e.kill.contains l then none else f l
def Eff.bv (e : Eff) (f : Nat → Option (List Z1)) : Nat → Option (List Z1) := fun id => match look e.put id with
  | some cs => some cs
  | none => f id
def putD {α : Type} (f : Nat → α) (d : Option Nat) (x : α) : Nat → α := match d with
  | some d => setN f d x
  | none => f
def S.go (s : S) (dst : Option Nat) (z : Z) (e : Eff) (us : Nat → Prop) : S :=
  { sl := putD s.sl dst (some z), live := e.lv s.live, bx := e.bv s.bx, us }

def Z1.keys : Z1 → List Nat
  | .own l _ _ => [l]
  | .ptr id _ => [id]
  | _ => []
def V1.keys : V1 → List Nat
  | .c z => z.keys
  | .agg cs => cs.flatMap Z1.keys

section
variable {P : Program} {tab : Tab} {E : Ent} {g g' : G} {s : S} {a : Act} {W W' : World}

theorem tmp_put {a : Act} {dst : Option Tmp} {v : Value} {t : Nat} : (a.put dst v).tmps[t]? = if dst = some t ∧ t < a.tmps.size then some v else a.tmps[t]? := by
  cases dst with
  | none => simp [Act.put]
  | some d =>
    simp only [Act.put, Array.getElem?_setIfInBounds, Option.some.injEq]
    by_cases h : d = t
    · subst h; simp only [if_true, true_and]
      split
      · rfl
      · rename_i h2; rw [Array.getElem?_eq_none (by omega)]
    · simp [h]

/-- A step: the memory as it now is, and a value for the slot. -/
theorem AI.step (h : AI P E g s a W) {dst : Option Nat} {z : Z} {v : Value} {live' : Nat → Option Ow} {bx' : Nat → Option (List Z1)} {n' : Nat → Prop}
    (hd : ∀ d, dst = some d → d < E.nt) (hn : ∀ k, s.us k → n' k) (hk : Keeps g.F g'.F W W') (hρ : ∀ i, s.us i → g'.ρ i = g.ρ i) (hω : ∀ i, s.us i → g'.ω i = g.ω i)
    (hb : WB E g'.F W') (hh : HI P E g' live' (bc bx') W') (hr : HR P g' live' bx' W') (hl : ∀ l e, live' l = some e → n' l) (hx : ∀ id cs, bx' id = some cs → n' id ∧ ∀ z ∈ cs, z.below n')
    (hv : RZ W' g' v z) (hz : z.below n') : AI P E g' { sl := putD s.sl dst (some z), live := live', bx := bx', us := n' } (a.put dst v) W' where
  defers := by cases dst <;> exact h.defers
  tsz := by cases dst <;> simp [Act.put] <;> exact h.tsz
  slots t zt ht := by
    have old : ∀ zt, s.sl t = some zt → ∃ v, a.tmps[t]? = some v ∧ RZ W' g' v zt := fun zt h1 => by
      obtain ⟨u, h2, h3⟩ := h.slots t zt h1
      exact ⟨u, h2, h3.keep hk (h.low t zt h1) hρ hω⟩
    cases dst with
    | none => exact old zt ht
    | some d =>
      simp only [putD] at ht
      by_cases hdt : t = d
      · subst hdt
        rw [setN_same] at ht
        cases ht
        have := hd t rfl
        have := h.tsz
        exact ⟨v, by rw [tmp_put, if_pos ⟨rfl, by omega⟩], hv⟩
      · rw [setN_ne _ _ hdt] at ht
        obtain ⟨u, h2, h3⟩ := old zt ht
        exact ⟨u, by rw [tmp_put, if_neg (fun q => hdt (by simpa using q.1.symm))]; exact h2, h3⟩
  low t zt ht := by
    cases dst with
    | none => exact Z.below_mono hn (h.low t zt ht)
    | some d =>
      simp only [putD] at ht
      by_cases hdt : t = d
      · subst hdt
        rw [setN_same] at ht
        cases ht
        exact hz
      · rw [setN_ne _ _ hdt] at ht
        exact Z.below_mono hn (h.low t zt ht)
  liveLow := hl
  boxLow := hx
  pkLow j hj := hn j (h.pkLow j hj)
  pin j hj := by
    rw [hρ j (h.pkLow j hj), hω j (h.pkLow j hj)]
    exact h.pin j hj
  b := hb
  h := hh
  r := hr

/-- A value, and nothing else. -/
theorem AI.val (h : AI P E g s a W) {dst : Option Nat} {z : Z} {v : Value} {n' : Nat → Prop} (hd : ∀ d, dst = some d → d < E.nt) (hn : ∀ k, s.us k → n' k) (hv : RZ W g v z) (hz : z.below s.us) :
    AI P E g (s.go dst z Eff.no n') (a.put dst v) W :=
  h.step hd hn (Keeps.refl _ _) (fun _ _ => rfl) (fun _ _ => rfl) h.b
    (h.h.less (fun l e h1 => by simpa [Eff.lv, Eff.no, look] using h1) (fun i c h1 => h1)) (h.r.less fun id T xs e h1 h2 _ => ⟨h1, by simpa [Eff.lv, Eff.no, look] using h2⟩)
    (fun l e h1 => hn l (h.liveLow l e (by simpa [Eff.lv, Eff.no, look] using h1)))
    (fun i c h1 => by
      obtain ⟨h2, h3⟩ := h.boxLow i c (by simpa [Eff.bv, Eff.no, look] using h1)
      exact ⟨hn i h2, fun z hz => Z1.below_mono hn (h3 z hz)⟩)
    hv (Z.below_mono hn hz)

theorem goes_alloc (W : World) (o : Obj) : Goes W (W.alloc o) (fun _ => False) := ⟨rfl, rfl, rfl, by simp, fun k hk _ => heap_alloc_old W o k hk⟩

theorem look_in {α : Type} : ∀ {l : List (Nat × α)} {k : Nat} {x : α}, look l k = some x → (k, x) ∈ l
  | [], _, _, h => by cases h
  | (i, y) :: l, k, x, h => by
    simp only [look] at h
    split at h
    · rename_i hk; subst hk; cases h; exact List.mem_cons_self
    · exact List.mem_cons_of_mem _ (look_in h)
theorem bc_bv {e : Eff} {f : Nat → Option (List Z1)} (h : ∀ p ∈ e.put, isRun p.2 = false) : bc (e.bv f) = e.bv (bc f) := by
  funext id
  unfold bc Eff.bv
  cases hl : look e.put id with
  | none => rfl
  | some cs => simp [h _ (look_in hl)]

/-- A new variable. -/
theorem AI.newO (h : AI P E g s a W) {dst : Option Nat} {cs : List Z1} {o : Obj} {base : Nat} {n' : Nat → Prop} {z : Z} {v : Value} (hrun : isRun cs = false) (hd : ∀ d, dst = some d → d < E.nt) (hb : ¬ s.us base) (hm : ∀ k, s.us k → n' k) (hn : n' base)
    (hr : BoxIs (W.alloc o) ⟨g.F, setN g.ρ base W.heap.size, g.ω⟩ W.heap.size cs) (hc : ∀ z ∈ cs, z.below s.us) (hz : RZ (W.alloc o) ⟨g.F, setN g.ρ base W.heap.size, g.ω⟩ v z) (hzb : z.below n') :
    AI P E ⟨g.F, setN g.ρ base W.heap.size, g.ω⟩ (s.go dst z ⟨[], [], [(base, cs)]⟩ n') (a.put dst v) (W.alloc o) := by
  have hg := goes_alloc W o
  have hk : Keeps g.F g.F W (W.alloc o) := Keeps.of_goes hg (fun b o hf => ⟨h.b.fz b o hf, id⟩) (fun _ _ => id)
  have hρ : ∀ i, s.us i → setN g.ρ base W.heap.size i = g.ρ i := fun i hi => setN_ne _ _ (fun e => hb (e ▸ hi))
  have hput : ∀ p ∈ (⟨[], [], [(base, cs)]⟩ : Eff).put, isRun p.2 = false := by intro p hp; simp at hp; subst hp; exact hrun
  have h1 : HI P E ⟨g.F, setN g.ρ base W.heap.size, g.ω⟩ s.live (bc s.bx) (W.alloc o) :=
    h.h.goes (n := s.us) hg hk (fun b o hf => .inl hf) hρ (fun _ _ => rfl) (fun l e hl => ⟨h.liveLow l e hl, hl, fun _ _ => id⟩)
      (fun id' cs' hid => ⟨(h.boxLow id' cs' (bc_some hid).1).1, hid, (h.boxLow id' cs' (bc_some hid).1).2, id⟩)
  have h2 : HI P E ⟨g.F, setN g.ρ base W.heap.size, g.ω⟩ (fun _ => none) (fun i => if i = base then some cs else none) (W.alloc o) :=
    HI.one_box (r := W.heap.size) (setN_same _ _ _) hr (fun o hf => by have := h.b.fz _ _ hf; omega) (.inr h.b.size)
  have h3 : HI P E ⟨g.F, setN g.ρ base W.heap.size, g.ω⟩ ((⟨[], [], [(base, cs)]⟩ : Eff).lv s.live) (bc ((⟨[], [], [(base, cs)]⟩ : Eff).bv s.bx)) (W.alloc o) := by
    rw [bc_bv hput]
    refine h1.union h2 (fun l e hl => .inl (by simpa [Eff.lv, look] using hl)) (fun i c hi => ?_) (fun _ _ _ _ _ hl => by cases hl) (fun i c i' c' hi hi' => ?_) (fun _ _ _ _ _ hl => by cases hl) (fun i c l e hi hl => ?_)
    · simp only [Eff.bv, look] at hi
      by_cases hib : base = i
      · subst hib; simp at hi; exact .inr (by simp [hi])
      · simp [hib] at hi; exact .inl hi
    · have hlt := (h.boxLow i c (bc_some hi).1).1
      by_cases hib : i' = base
      · subst hib
        show setN g.ρ i' W.heap.size i ≠ setN g.ρ i' W.heap.size i'
        rw [setN_same, setN_ne _ _ (fun e : i = i' => hb (by rw [← e]; exact hlt))]
        have := (h.h.box i c hi).1.lt
        omega
      · simp [hib] at hi'
    · by_cases hib : i = base
      · subst hib
        show (g.ω l).ownBlock ≠ some (setN g.ρ i W.heap.size i)
        rw [setN_same]
        intro hc'
        have := (h.h.own l e hl).lt hc'
        omega
      · simp [hib] at hi
  have h4 : HR P ⟨g.F, setN g.ρ base W.heap.size, g.ω⟩ ((⟨[], [], [(base, cs)]⟩ : Eff).lv s.live) ((⟨[], [], [(base, cs)]⟩ : Eff).bv s.bx) (W.alloc o) :=
    h.r.goes (n := s.us) h.h hg hk (fun _ _ => rfl) (fun id T xs e q1 q2 q3 => by
      simp only [Eff.bv, look] at q1
      by_cases hib : base = id
      · subst hib; simp at q1; subst q1; cases hrun
      · simp [hib] at q1
        exact ⟨(h.boxLow id _ q1).1, q1, by simpa [Eff.lv, look] using q2, fun _ _ => False.elim⟩)
  refine h.step hd hm hk hρ (fun _ _ => rfl) (h.b.goes hg (fun _ => False.elim) hk (fun b o hf => .inl hf)) h3 h4 ?_ ?_ hz hzb
  · intro l e hl
    exact hm l (h.liveLow l e (by simpa [Eff.lv, look] using hl))
  · intro i c hi
    simp only [Eff.bv, look] at hi
    by_cases hib : base = i
    · subst hib; simp at hi; subst hi; exact ⟨hn, fun z hz => Z1.below_mono hm (hc z hz)⟩
    · simp [hib] at hi
      obtain ⟨q1, q2⟩ := h.boxLow i c hi
      exact ⟨hm i q1, fun z hz => Z1.below_mono hm (q2 z hz)⟩
theorem AI.new (h : AI P E g s a W) {dst : Option Nat} {cs : List Z1} {vs : Array Value} {ty : TypeId} {base : Nat} {n' : Nat → Prop} (hrun : isRun cs = false) (hd : ∀ d, dst = some d → d < E.nt) (hb : ¬ s.us base) (hm : ∀ k, s.us k → n' k) (hn : n' base)
    (hr : RCs W g vs.toList cs) (hc : ∀ z ∈ cs, z.below s.us) :
    ∃ g', AI P E g' (s.go dst (.one (.c (.ptr base 0))) ⟨[], [], [(base, cs)]⟩ n') (a.put dst (.pointer (some ⟨W.heap.size, 0, none⟩))) (W.alloc (.cells vs ty)) := by
  have hk : Keeps g.F g.F W (W.alloc (.cells vs ty)) := Keeps.of_goes (goes_alloc W _) (fun b o hf => ⟨h.b.fz b o hf, id⟩) (fun _ _ => id)
  have hρ : ∀ i, s.us i → setN g.ρ base W.heap.size i = g.ρ i := fun i hi => setN_ne _ _ (fun e => hb (e ▸ hi))
  refine ⟨_, h.newO (o := .cells vs ty) (z := .one (.c (.ptr base 0))) hrun hd hb hm hn (.inl ⟨vs, ty, heap_alloc_new W _, hr.keep (n := s.us) hk hc hρ (fun _ _ => rfl)⟩) hc ?_ hn⟩
  show Value.pointer _ = Value.pointer (some ⟨setN g.ρ base W.heap.size base, 0, none⟩)
  rw [setN_same]

/-- A variable written. -/
theorem AI.writeO (h : AI P E g s a W) {dst : Option Nat} {id : Nat} {cs cs' : List Z1} {n' : Nat → Prop} {z : Z} {v : Value} (hrun : isRun cs = false) (hrun' : isRun cs' = false) (hd : ∀ d, dst = some d → d < E.nt) (hn : ∀ k, s.us k → n' k)
    (hid : s.bx id = some cs) (hg : Goes W W' (fun b => b = g.ρ id)) (hr : Keeps g.F g.F W W' → BoxIs W' g (g.ρ id) cs') (hc : ∀ z ∈ cs', z.below s.us) (hz : Keeps g.F g.F W W' → RZ W' g v z) (hzb : z.below s.us) :
    AI P E g (s.go dst z ⟨[], [], [(id, cs')]⟩ n') (a.put dst v) W' := by
  have hid' := bc_of hid hrun
  obtain ⟨_, hf⟩ := h.h.box id cs hid'
  have hk : Keeps g.F g.F W W' := Keeps.of_goes hg (fun b o hb => ⟨h.b.fz b o hb, fun e => hf o (e ▸ hb)⟩) (fun _ _ => fun q => q)
  have hput : ∀ p ∈ (⟨[], [], [(id, cs')]⟩ : Eff).put, isRun p.2 = false := by intro p hp; simp at hp; subst hp; exact hrun'
  have h1 : HI P E g s.live (fun i => if i = id then none else bc s.bx i) W' :=
    h.h.goes (n := s.us) hg hk (fun b o hf => .inl hf) (fun _ _ => rfl) (fun _ _ => rfl) (fun l e hl => ⟨h.liveLow l e hl, hl, fun b hb e' => h.h.boxOwn id cs l e hid' hl (e' ▸ hb)⟩)
      (fun i c hi => by
        by_cases hie : i = id
        · simp [hie] at hi
        · simp [hie] at hi
          exact ⟨(h.boxLow i c (bc_some hi).1).1, hi, (h.boxLow i c (bc_some hi).1).2, h.h.boxNe i id c cs hi hid' hie⟩)
  have h2 : HI P E g (fun _ => none) (fun i => if i = id then some cs' else none) W' :=
    HI.one_box rfl (hr hk) hf (h.h.boxMay id cs hid')
  have h3 : HI P E g ((⟨[], [], [(id, cs')]⟩ : Eff).lv s.live) (bc ((⟨[], [], [(id, cs')]⟩ : Eff).bv s.bx)) W' := by
    rw [bc_bv hput]
    refine h1.union h2 (fun l e hl => .inl (by simpa [Eff.lv, look] using hl)) (fun i c hi => ?_) (fun _ _ _ _ _ hl => by cases hl) (fun i c i' c' hi hi' => ?_) (fun _ _ _ _ _ hl => by cases hl) (fun i c l e hi hl => ?_)
    · simp only [Eff.bv, look] at hi
      by_cases hib : id = i
      · subst hib; simp at hi; exact .inr (by simp [hi])
      · simp [hib] at hi; exact .inl (by simp [Ne.symm hib, hi])
    · by_cases hib : i' = id
      · subst hib
        by_cases hie : i = i'
        · simp [hie] at hi
        · simp [hie] at hi; exact h.h.boxNe i i' c cs hi hid' hie
      · simp [hib] at hi'
    · by_cases hib : i = id
      · subst hib; exact h.h.boxOwn i cs l e hid' hl
      · simp [hib] at hi
  have h4 : HR P g ((⟨[], [], [(id, cs')]⟩ : Eff).lv s.live) ((⟨[], [], [(id, cs')]⟩ : Eff).bv s.bx) W' :=
    h.r.goes (n := s.us) h.h hg hk (fun _ _ => rfl) (fun i T xs e q1 q2 q3 => by
      simp only [Eff.bv, look] at q1
      by_cases hib : id = i
      · subst hib; simp at q1; subst q1; cases hrun'
      · simp [hib] at q1
        have q2 : s.live i = some e := by simpa [Eff.lv, look] using q2
        exact ⟨(h.boxLow i _ q1).1, q1, q2, fun b hb e' => h.h.boxOwn id cs i e hid' q2 (e' ▸ hb)⟩)
  refine h.step hd hn hk (fun _ _ => rfl) (fun _ _ => rfl) (h.b.goes hg (fun b hb => hb ▸ h.h.boxMay id cs hid') hk (fun b o hf => .inl hf)) h3 h4 ?_ ?_ (hz hk) (Z.below_mono hn hzb)
  · intro l e hl
    exact hn l (h.liveLow l e (by simpa [Eff.lv, look] using hl))
  · intro i c hi
    simp only [Eff.bv, look] at hi
    by_cases hib : id = i
    · subst hib; simp at hi; subst hi; exact ⟨hn id (h.boxLow id cs hid).1, fun z hz => Z1.below_mono hn (hc z hz)⟩
    · simp [hib] at hi
      obtain ⟨q1, q2⟩ := h.boxLow i c hi
      exact ⟨hn i q1, fun z hz => Z1.below_mono hn (q2 z hz)⟩
theorem AI.write (h : AI P E g s a W) {dst : Option Nat} {id : Nat} {cs cs' : List Z1} {vs' : Array Value} {n' : Nat → Prop} (hpl : plainB cs = true) (hpl' : plainB cs' = true) (hd : ∀ d, dst = some d → d < E.nt) (hn : ∀ k, s.us k → n' k)
    (hid : s.bx id = some cs) (hr : RCs W g vs'.toList cs') (hc : ∀ z ∈ cs', z.below s.us) :
    AI P E g (s.go dst .no ⟨[], [], [(id, cs')]⟩ n') (a.put dst undef) (W.setRow (g.ρ id) vs') := by
  obtain ⟨vs, ty, hh, hr0⟩ := (h.h.box id cs (bc_of hid (plain_run hpl))).1.plain hpl
  have hg : Goes W (W.setRow (g.ρ id) vs') (fun b => b = g.ρ id) :=
    ⟨rfl, rfl, rfl, by simp [World.setRow], fun b hb hne => by simp [World.setRow, Array.getElem?_modify, Ne.symm hne]⟩
  have hnew := setRow_heap W (g.ρ id) vs vs' ty (0, 0) hh
  exact h.writeO (z := .no) (plain_run hpl) (plain_run hpl') hd hn hid hg (fun hk => .inl ⟨vs', ty, hnew, hr.keep (n := s.us) hk hc (fun _ _ => rfl) (fun _ _ => rfl)⟩) hc (fun _ => rfl) trivial

/-- A new row of the call's own; it may stand in the block of one that is given up for it. -/
theorem AI.row (h : AI P E g s a W) {dst : Option Nat} {kill : Option Nat} {Ch : Nat → Prop} {v : Value} {e : Ow} {n : Nat} {T : K} {xs : List T.den} {base : Nat} {n' : Nat → Prop}
    (hd : ∀ d, dst = some d → d < E.nt) (hb : ¬ s.us base) (hm : ∀ k, s.us k → n' k) (hn : n' base) (hg : Goes W W' Ch)
    (hCh : ∀ b, Ch b → ∃ l0 e0, kill = some l0 ∧ s.live l0 = some e0 ∧ (g.ω l0).ownBlock = some b)
    (hcell : ∀ b o, Ch b → g.F b o → W'.cell? ⟨b, o, none⟩ = W.cell? ⟨b, o, none⟩)
    (hk2 : e.k ≠ 2) (hv : (v = .slice none 0 0 ∧ e.k = 0) ∨ ∃ g0 cap cur fr, v = .slice (some ⟨g0, 0, none⟩) n cap ∧ W'.heap[g0]? = some (.cells cur e.e fr) ∧ n ≤ cap ∧ cap ≤ maxLen ∧ cur.size = cap * P.cellsOf e.e ∧ (Ch g0 ∨ W.heap.size ≤ g0) ∧ (∀ o, g.F g0 o → o < n * P.cellsOf e.e) ∧ (e.k ≠ 0 → n = cap) ∧ (fr = (0, 0) ∨ n = cap))
    (hrd : (Keeps g.F (fun b o => g.F b o ∨ (v.ownBlock = some b ∧ o < n * P.cellsOf e.e)) W W') → RD W' (fun b o => g.F b o ∨ (v.ownBlock = some b ∧ o < n * P.cellsOf e.e)) v (X.sl T xs).raw) :
    ∃ g', AI P E g' (s.go dst (.one (.c (.own base T xs))) ⟨kill.toList, [(base, e)], []⟩ n') (a.put dst v) W' := by
  have hk : Keeps g.F (fun b o => g.F b o ∨ (v.ownBlock = some b ∧ o < n * P.cellsOf e.e)) W W' := ⟨fun b o hf => .inl hf, fun b o hf => by
    by_cases hc : Ch b
    · exact hcell b o hc hf
    · exact cell_of_block (hg.block b (h.b.fz b o hf) hc)⟩
  have hrd := hrd hk
  have hblk : ∀ b, v.ownBlock = some b → (Ch b ∨ W.heap.size ≤ b) ∧ b < W'.heap.size := by
    intro b hvb
    rcases hv with ⟨rfl, hk0⟩ | ⟨g0, cap, cur, fr, rfl, hh, _, _, _, hc, _⟩
    · cases hvb
    · simp only [Value.ownBlock, Option.some.injEq] at hvb
      subst hvb
      exact ⟨hc, lt_of_heap hh⟩
  have chMay : ∀ b, Ch b → E.may b := fun b hc => by
    obtain ⟨l0, e0, _, h2, h3⟩ := hCh b hc
    exact h.h.ownMay l0 e0 h2 b h3
  refine ⟨⟨fun b o => g.F b o ∨ (v.ownBlock = some b ∧ o < n * P.cellsOf e.e), g.ρ, setN g.ω base v⟩, ?_⟩
  have hω : ∀ i, s.us i → setN g.ω base v i = g.ω i := fun i hi => setN_ne _ _ (fun e => hb (e ▸ hi))
  have hF : ∀ b o, (g.F b o ∨ (v.ownBlock = some b ∧ o < n * P.cellsOf e.e)) → g.F b o ∨ ((Ch b ∨ W.heap.size ≤ b) ∧ b < W'.heap.size) := fun b o hf => hf.imp id (fun q => hblk b q.1)
  have keepL : ∀ l e', (if kill.toList.contains l then none else s.live l) = some e' → s.live l = some e' ∧ ∀ b, (g.ω l).ownBlock = some b → ¬ Ch b := by
    intro l e' hl
    split at hl
    · cases hl
    · rename_i hne
      refine ⟨hl, fun b hbb hc => ?_⟩
      obtain ⟨l0, e0, hk0, h2, h3⟩ := hCh b hc
      have : l ≠ l0 := fun q => hne (by subst hk0; subst q; simp)
      exact h.h.ownNe l e' l0 e0 hl h2 this b hbb h3
  have h1 : HI P E ⟨fun b o => g.F b o ∨ (v.ownBlock = some b ∧ o < n * P.cellsOf e.e), g.ρ, setN g.ω base v⟩ (fun l => if kill.toList.contains l then none else s.live l) (bc s.bx) W' :=
    h.h.goes (n := s.us) hg hk (fun b o hf => (hF b o hf).imp id (fun q => q.1)) (fun _ _ => rfl) hω
      (fun l e' hl => ⟨h.liveLow l e' (keepL l e' hl).1, (keepL l e' hl).1, (keepL l e' hl).2⟩)
      (fun i c hi => ⟨(h.boxLow i c (bc_some hi).1).1, hi, (h.boxLow i c (bc_some hi).1).2, fun hc => by
        obtain ⟨l0, e0, _, h2, h3⟩ := hCh _ hc
        exact h.h.boxOwn i c l0 e0 hi h2 h3⟩)
  have hown : OwnV P W' (fun b o => g.F b o ∨ (v.ownBlock = some b ∧ o < n * P.cellsOf e.e)) v e := by
    rcases hv with ⟨rfl, hk0⟩ | ⟨g0, cap, cur, fr, rfl, hh, c1, c2, c3, hc, hf, hfu, hfr⟩
    · exact .inl ⟨rfl, by rw [hk0]; decide⟩
    · exact .inr ⟨g0, n, cap, cur, fr, rfl, hh, c1, c2, c3, fun o ho => ho.elim (hf o) (fun q => q.2), fun q => hfu (by rw [q]; decide), hfr, fun q => absurd q hk2⟩
  have h2 : HI P E ⟨fun b o => g.F b o ∨ (v.ownBlock = some b ∧ o < n * P.cellsOf e.e), g.ρ, setN g.ω base v⟩ (fun i => if i = base then some e else none) (fun _ => none) W' :=
    HI.one_own (setN_same _ _ _) hown (fun b hvb => (hblk b hvb).1.elim (chMay b) (fun q => .inr (Nat.le_trans h.b.size q)))
  refine h.step hd hm hk (fun _ _ => rfl) hω (h.b.goes hg chMay hk hF)
    (h1.union h2 (fun l e' hl => ?_) (fun i c hi => .inl (show bc s.bx i = some c from hi)) (fun l e1 l' e2 hl hl' b hb1 hb2 => ?_) (fun _ _ _ _ _ hi => by cases hi) (fun i c l e' hi hl hc => ?_) (fun _ _ _ _ hi => by cases hi)) (h.r.goes (n := s.us) h.h hg hk hω (fun id T0 xs0 e0 q1 q2 q3 => by
      have hu := (h.boxLow id _ q1).1
      simp only [Eff.lv, look] at q2
      rw [if_neg (fun q => hb (by rw [q]; exact hu))] at q2
      exact ⟨hu, q1, (keepL id e0 q2).1, (keepL id e0 q2).2⟩)) ?_ ?_ ?_ ?_
  · simp only [Eff.lv, look] at hl
    by_cases hlb : base = l
    · subst hlb; simp at hl; exact .inr (by simp [hl])
    · simp only [hlb, if_false] at hl; exact .inl hl
  · obtain ⟨q1, q2⟩ := keepL l e1 hl
    have hll := h.liveLow l e1 q1
    by_cases hlb : l' = base
    · subst hlb
      have hb1' : (g.ω l).ownBlock = some b := by rw [← hω l hll]; exact hb1
      have hb2' : v.ownBlock = some b := by rw [← setN_same g.ω l' v]; exact hb2
      rcases (hblk b hb2').1 with hc | hc
      · exact q2 b hb1' hc
      · have := (h.h.own l e1 q1).lt hb1'; omega
    · simp [hlb] at hl'
  · by_cases hlb : l = base
    · subst hlb
      have hc' : v.ownBlock = some (g.ρ i) := by rw [← setN_same g.ω l v]; exact hc
      have hh := (h.h.box i c hi).1.lt
      rcases (hblk _ hc').1 with hc2 | hc2
      · obtain ⟨l0, e0, _, p2, p3⟩ := hCh _ hc2
        exact h.h.boxOwn i c l0 e0 hi p2 p3
      · omega
    · simp [hlb] at hl
  · intro l e' hl
    simp only [Eff.lv, look] at hl
    by_cases hlb : base = l
    · subst hlb; exact hn
    · simp only [hlb, if_false] at hl
      exact hm l (h.liveLow l e' (keepL l e' hl).1)
  · intro i c hi
    obtain ⟨q1, q2⟩ := h.boxLow i c (by simpa [Eff.bv, look] using hi)
    exact ⟨hm i q1, fun z hz => Z1.below_mono hm (q2 z hz)⟩
  · exact ⟨hrd, setN_same _ _ _⟩
  · exact hn
end
end Zed
