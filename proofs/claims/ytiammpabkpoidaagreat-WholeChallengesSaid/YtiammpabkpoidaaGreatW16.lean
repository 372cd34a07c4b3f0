/- Texts ZedEa, ZedEb, ZedEe of our own machine for the walk of WholeChallenges, one behind the other. -/
import Derived.Test.YtiammpabkpoidaaGreatW15
namespace Zed
open Go
set_option linter.unusedVariables false
set_option linter.unusedSimpArgs false

/-! TRIES by numbers. -/
section
variable {α β : Type}
noncomputable def Tr.setS : Nat → Tr α → Nat → α → (Tr α → Option β) → Option β
  | 0, _, _, _, _ => none
  | f + 1, t, k, x, c => match t with
    | .e => cond (Nat.beq k 0) (c (.n (some x) .e .e)) (cond (Nat.beq (Nat.mod k 2) 1) (Tr.setS f .e (Nat.div k 2) x fun l => c (.n none l .e)) (Tr.setS f .e (Nat.sub (Nat.div k 2) 1) x fun r => c (.n none .e r)))
    | .n v l r => cond (Nat.beq k 0) (c (.n (some x) l r)) (cond (Nat.beq (Nat.mod k 2) 1) (Tr.setS f l (Nat.div k 2) x fun l' => c (.n v l' r)) (Tr.setS f r (Nat.sub (Nat.div k 2) 1) x fun r' => c (.n v l r')))
noncomputable def Tr.setK (f : Nat) : Tr α → Nat → α → (Tr α → Option β) → Option β :=
  @Nat.rec (fun _ => Tr α → Nat → α → (Tr α → Option β) → Option β) (fun _ _ _ _ => none) (fun _ ih t k x c =>
    @Tr.rec α (fun _ => Option β) (cond (Nat.beq k 0) (c (.n (some x) .e .e)) (cond (Nat.beq (Nat.mod k 2) 1) (ih .e (Nat.div k 2) x fun l => c (.n none l .e)) (ih .e (Nat.sub (Nat.div k 2) 1) x fun r => c (.n none .e r))))
      (fun v l r _ _ => cond (Nat.beq k 0) (c (.n (some x) l r)) (cond (Nat.beq (Nat.mod k 2) 1) (ih l (Nat.div k 2) x fun l' => c (.n v l' r)) (ih r (Nat.sub (Nat.div k 2) 1) x fun r' => c (.n v l r')))) t) f
noncomputable def Tr.list : Tr α → List (Nat × α)
  | .e => []
  | .n v l r => (match v with
    | some x => [(0, x)]
    | none => []) ++ (l.list.map (fun p => (2 * p.1 + 1, p.2)) ++ r.list.map (fun p => (2 * p.1 + 2, p.2)))

theorem Tr.get_n (v : Option α) (l r : Tr α) (k : Nat) : (Tr.n v l r).get k = if k = 0 then v else if k % 2 = 1 then l.get (k / 2) else r.get (k / 2 - 1) := by
  show cond (Nat.beq k 0) v (cond (Nat.beq (k % 2) 1) (l.get (k / 2)) (r.get (k / 2 - 1))) = _
  by_cases h : k = 0
  · subst h; rfl
  · rw [if_neg h]
    have h1 : Nat.beq k 0 = false := by cases k with
      | zero => exact absurd rfl h
      | succ k => rfl
    rw [h1]
    by_cases h2 : k % 2 = 1
    · rw [if_pos h2, h2]; rfl
    · rw [if_neg h2]
      have : k % 2 = 0 := by omega
      rw [this]; rfl
theorem Tr.setK_spec : ∀ (f : Nat) (t : Tr α) (k : Nat) (x : α) (c : Tr α → Option β) (b : β), Tr.setK f t k x c = some b → ∃ t', c t' = some b ∧ ∀ j, t'.get j = if j = k then some x else t.get j
  | 0, t, k, x, c, b, h => absurd (show none = some b from h) (by simp)
  | f + 1, t, k, x, c, b, h => by
    have key : ∀ (v : Option α) (l r : Tr α), cond (Nat.beq k 0) (c (.n (some x) l r)) (cond (Nat.beq (Nat.mod k 2) 1) (Tr.setK f l (Nat.div k 2) x fun l' => c (.n v l' r)) (Tr.setK f r (Nat.sub (Nat.div k 2) 1) x fun r' => c (.n v l r'))) = some b →
        (∀ j, t.get j = (Tr.n v l r).get j) → ∃ t', c t' = some b ∧ ∀ j, t'.get j = if j = k then some x else t.get j := by
      intro v l r h hg
      by_cases h0 : k = 0
      · subst h0
        refine ⟨_, h, fun j => ?_⟩
        rw [hg, Tr.get_n, Tr.get_n]
        split <;> rfl
      · have h1 : Nat.beq k 0 = false := by cases k with
          | zero => exact absurd rfl h0
          | succ k => rfl
        rw [h1] at h
        simp only [cond_false] at h
        by_cases h2 : k % 2 = 1
        · have h3 : Nat.beq (Nat.mod k 2) 1 = true := by show Nat.beq (k % 2) 1 = true; rw [h2]; rfl
          rw [h3] at h
          obtain ⟨l', q1, q2⟩ := Tr.setK_spec f l (k / 2) x _ b h
          refine ⟨_, q1, fun j => ?_⟩
          rw [hg, Tr.get_n, Tr.get_n, q2]
          by_cases hj : j = k
          · subst hj; simp [h0, h2]
          · rw [if_neg hj]
            by_cases hj0 : j = 0
            · simp [hj0]
            · simp only [if_neg hj0]
              split
              · rename_i hj1; rw [if_neg (by omega)]
              · rfl
        · have h3 : Nat.beq (Nat.mod k 2) 1 = false := by
            show Nat.beq (k % 2) 1 = false
            have : k % 2 = 0 := by omega
            rw [this]; rfl
          rw [h3] at h
          obtain ⟨r', q1, q2⟩ := Tr.setK_spec f r (k / 2 - 1) x _ b h
          refine ⟨_, q1, fun j => ?_⟩
          rw [hg, Tr.get_n, Tr.get_n, q2]
          by_cases hj : j = k
          · subst hj; simp [h0, h2]
          · rw [if_neg hj]
            by_cases hj0 : j = 0
            · simp [hj0]
            · simp only [if_neg hj0]
              split
              · rfl
              · rename_i hj1; rw [if_neg (by omega)]
    cases t with
    | e =>
      refine key none .e .e h (fun j => ?_)
      rw [Tr.get_n]
      show none = _
      split
      · rfl
      · split <;> rfl
    | n v l r => exact key v l r h (fun _ => rfl)

theorem look_none {l : List (Nat × α)} {k : Nat} (h : ∀ p ∈ l, p.1 ≠ k) : look l k = none := by
  induction l with
  | nil => rfl
  | cons p r ih =>
    obtain ⟨i, x⟩ := p
    simp only [look]
    rw [if_neg (h (i, x) (by simp))]
    exact ih fun p hp => h p (by simp [hp])
theorem look_inj (f : Nat → Nat) (hf : ∀ a b, f a = f b → a = b) : ∀ (l : List (Nat × α)) (j : Nat), look (l.map fun p => (f p.1, p.2)) (f j) = look l j
  | [], _ => rfl
  | (i, x) :: r, j => by
    simp only [List.map_cons, look]
    by_cases h : i = j
    · subst h; simp
    · rw [if_neg h, if_neg (fun e => h (hf _ _ e)), look_inj f hf r j]
theorem Tr.look_list : ∀ (t : Tr α) (k : Nat), look t.list k = t.get k
  | .e, _ => rfl
  | .n v l r, k => by
    rw [Tr.get_n]
    show look ((match v with
      | some x => [(0, x)]
      | none => []) ++ (l.list.map (fun p => (2 * p.1 + 1, p.2)) ++ r.list.map (fun p => (2 * p.1 + 2, p.2)))) k = _
    rw [look_append, look_append]
    by_cases h0 : k = 0
    · subst h0
      have h1 : look (l.list.map (fun p => (2 * p.1 + 1, p.2))) 0 = none := look_none fun p hp => by obtain ⟨q, _, rfl⟩ := List.mem_map.1 hp; simp
      have h2 : look (r.list.map (fun p => (2 * p.1 + 2, p.2))) 0 = none := look_none fun p hp => by obtain ⟨q, _, rfl⟩ := List.mem_map.1 hp; simp
      cases v <;> simp [look, h1, h2]
    · rw [if_neg h0]
      have hv : look (match v with
        | some x => [(0, x)]
        | none => []) k = none := by
        cases v with
        | none => rfl
        | some x => simp only [look]; rw [if_neg (fun e => h0 e.symm)]
      rw [hv]
      simp only
      by_cases h1 : k % 2 = 1
      · rw [if_pos h1]
        have e := look_inj (fun a => 2 * a + 1) (fun a b q => by omega) l.list (k / 2)
        have h2 : look (r.list.map (fun p => (2 * p.1 + 2, p.2))) k = none := look_none fun p hp => by obtain ⟨q, _, rfl⟩ := List.mem_map.1 hp; simp only; omega
        simp only [show 2 * (k / 2) + 1 = k by omega] at e
        rw [e, h2, Tr.look_list l]
        cases l.get (k / 2) <;> rfl
      · rw [if_neg h1]
        have e := look_inj (fun a => 2 * a + 2) (fun a b q => by omega) r.list (k / 2 - 1)
        have h2 : look (l.list.map (fun p => (2 * p.1 + 1, p.2))) k = none := look_none fun p hp => by obtain ⟨q, _, rfl⟩ := List.mem_map.1 hp; simp only; omega
        simp only [show 2 * (k / 2 - 1) + 2 = k by omega] at e
        rw [e, h2, Tr.look_list r]
end

theorem tabOk_of {P : Program} {ts : List TypeId} {tab : Tab} (h : tabOf P ts = tab.list) : TabOk P tab := fun t i ht => tabOf_ok P ts t i (by rw [h, Tr.look_list]; exact ht)

/-! A CALL in the caller's own numbers. -/
noncomputable def LowL (L : Nat → Option Ow) (n : Nat) : Prop := ∀ l e, L l = some e → l < n
noncomputable def LowB (B : Nat → Option (List Z1)) (n : Nat) : Prop := ∀ id cs, B id = some cs → id < n ∧ ∀ z ∈ cs, z.below (· < n)
/-- What a call of 'f' does: as FnOK, the numbers told by functions. -/
noncomputable def FnW (P : Program) (f : FuncId) (vs : List V1) (L : Nat → Option Ow) (B : Nat → Option (List Z1)) (n : Nat) (z : Z) (L' : Nat → Option Ow) (B' : Nat → Option (List Z1)) (n' : Nat) : Prop :=
  (∀ v ∈ vs, v.below (· < n)) → LowL L n → LowB B n → ∀ (E : Ent) (g : G) (W : World) (args : Array Value), args.size = vs.length → (∀ (j : Nat) (v : Value) (z : V1), args[j]? = some v → vs[j]? = some z → RV W g v z) →
    E.pk = n → (∀ j, j < n → g.ρ j = E.ρ0 j ∧ g.ω j = E.ω0 j) → E.W0 = W → E.F0 = g.F → HI P E g L (bc B) W → HR P g L B W → WB E g.F W →
    Invoked P f args W fun v W' => ∃ g', RZ W' g' v z ∧ HI P E g' L' (bc B') W' ∧ HR P g' L' B' W' ∧ WB E g'.F W' ∧ (∀ j, j < n → g'.ρ j = g.ρ j ∧ g'.ω j = g.ω j) ∧ n ≤ n' ∧ z.below (· < n') ∧ LowL L' n' ∧ LowB B' n'

theorem FnOK.toW {P : Program} {f : FuncId} {i : Inn} {o : Out} (h : FnOK P f i o) : FnW P f i.args (look i.live) (look i.bx) i.n o.val (look o.live) (look o.bx) o.n := by
  intro h1 h2 h3 E g W args q1 q2 q3 q4 q5 q6 q7 q8 q9
  obtain ⟨hok, hf⟩ := h
  simp only [Out.ok, Bool.and_eq_true, List.all_eq_true, Nat.blt_eq, Nat.ble_eq] at hok
  obtain ⟨⟨⟨⟨o1, o2⟩, o3⟩, o4⟩, o5⟩ := hok
  have post : ∀ v W', (∃ g', RZ W' g' v o.val ∧ HI P E g' (look o.live) (bc (look o.bx)) W' ∧ HR P g' (look o.live) (look o.bx) W' ∧ WB E g'.F W' ∧ ∀ j, j < i.n → g'.ρ j = g.ρ j ∧ g'.ω j = g.ω j) →
      ∃ g', RZ W' g' v o.val ∧ HI P E g' (look o.live) (bc (look o.bx)) W' ∧ HR P g' (look o.live) (look o.bx) W' ∧ WB E g'.F W' ∧ (∀ j, j < i.n → g'.ρ j = g.ρ j ∧ g'.ω j = g.ω j) ∧ i.n ≤ o.n ∧ o.val.below (· < o.n) ∧ LowL (look o.live) o.n ∧ LowB (look o.bx) o.n := by
    rintro v W' ⟨g', r1, r2, r3, r4, r5⟩
    refine ⟨g', r1, r2, r3, r4, r5, o5, Z.low_of o1, fun l e hl => o2 _ (look_mem hl), fun id cs hid => ?_⟩
    obtain ⟨p1, p2⟩ := o3 _ (look_mem hid)
    exact ⟨p1, fun z hz => Z1.low_of (p2 z hz)⟩
  rcases hf E g W args q1 q2 q3 q4 q5 q6 q7 q8 q9 with ⟨r1, r2⟩ | ⟨v, W', r1, r2⟩
  · exact .inl ⟨r1, r2.mono fun e W' ⟨v, e1, hh⟩ => ⟨v, e1, post v W' hh⟩⟩
  · exact .inr ⟨v, W', r1, post v W' r2⟩
theorem FnW.toOK {P : Program} {f : FuncId} {i : Inn} {o : Out} (hi : i.ok = true) (ho : o.ok i = true) (h : FnW P f i.args (look i.live) (look i.bx) i.n o.val (look o.live) (look o.bx) o.n) : FnOK P f i o := by
  refine ⟨ho, fun E g W args q1 q2 q3 q4 q5 q6 q7 q8 q9 => ?_⟩
  simp only [Inn.ok, Bool.and_eq_true, List.all_eq_true, Nat.blt_eq] at hi
  obtain ⟨⟨i1, i2⟩, i3⟩ := hi
  have := h (fun v hv => V1.low_of (i1 v hv)) (fun l e hl => i2 _ (look_mem hl)) (fun id cs hid => by
    obtain ⟨p1, p2⟩ := i3 _ (look_mem hid)
    exact ⟨p1, fun z hz => Z1.low_of (p2 z hz)⟩) E g W args q1 q2 q3 q4 q5 q6 q7 q8 q9
  rcases this with ⟨r1, r2⟩ | ⟨v, W', r1, g', p1, p2, p3, p4, p5, _⟩
  · exact .inl ⟨r1, r2.mono fun e W' ⟨v, e1, g', p1, p2, p3, p4, p5, _⟩ => ⟨v, e1, g', p1, p2, p3, p4, p5⟩⟩
  · exact .inr ⟨v, W', r1, g', p1, p2, p3, p4, p5⟩

section
variable {P : Program} {tab : Tab} {E : Ent} {g : G} {s : S} {a : Act} {W W' : World}
theorem AI.callI (h : AI P E g s a W) {nx : Nat} (hus : s.us = (· < nx)) {dst : Option Nat} {f : FuncId} {vs : List V1} {us : List Value} {z : Z} {L' : Nat → Option Ow} {B' : Nat → Option (List Z1)} {n' : Nat} (hf : FnW P f vs s.live s.bx nx z L' B' n')
    (hd : ∀ d, dst = some d → d < E.nt) (hl : us.length = vs.length) (hv : ∀ (j : Nat) (v : Value) (z : V1), us[j]? = some v → vs[j]? = some z → RV W g v z) (hb : ∀ v ∈ vs, v.below s.us) :
    Invoked P f us.toArray W fun v W' => ∃ g', AI P E g' { sl := putD s.sl dst (some z), live := L', bx := B', us := (· < n') } (a.put dst v) W' := by
  have hus' : ∀ k, s.us k ↔ k < nx := fun k => by rw [hus]
  let T : Nat → Prop := fun b => (∃ k cs, bc s.bx k = some cs ∧ g.ρ k = b) ∨ (∃ k e, s.live k = some e ∧ (g.ω k).ownBlock = some b)
  let E' : Ent := ⟨W, g.F, T, nx, g.ρ, g.ω, 0, []⟩
  have tMay : ∀ b, T b → E.may b := by
    rintro b (⟨k, cs, h1, rfl⟩ | ⟨k, e, h1, h2⟩)
    · exact h.h.boxMay k cs h1
    · exact h.h.ownMay k e h1 b h2
  have eMay : ∀ b, E'.may b → E.may b := by
    rintro b (hT | hge)
    · exact tMay b hT
    · exact .inr (Nat.le_trans h.b.size hge)
  have hHI : HI P E' g s.live (bc s.bx) W :=
    ⟨h.h.own, h.h.ownNe, fun l e hl b hb1 => .inl (.inr ⟨l, e, hl, hb1⟩), h.h.box, h.h.boxNe, fun id cs hid => .inl (.inl ⟨id, cs, hid, rfl⟩), h.h.boxOwn⟩
  have hWB : WB E' g.F W := ⟨h.b.fz, rfl, rfl, rfl, Nat.le_refl _, fun _ _ _ => rfl, Keeps.refl _ _, fun b o hf => .inl hf⟩
  have run := hf (fun v hv => by have := hb v hv; rw [hus] at this; exact this) (fun l e hl => (hus' l).1 (h.liveLow l e hl)) (fun id cs hid => by have := h.boxLow id cs hid; rw [hus] at this; exact this) E' g W us.toArray (by simpa using hl) (fun j v z h1 h2 => hv j v z (by simpa using h1) h2) rfl (fun _ _ => ⟨rfl, rfl⟩) rfl rfl hHI h.r hWB
  have back : ∀ v W', (∃ g', RZ W' g' v z ∧ HI P E' g' L' (bc B') W' ∧ HR P g' L' B' W' ∧ WB E' g'.F W' ∧ (∀ j, j < nx → g'.ρ j = g.ρ j ∧ g'.ω j = g.ω j) ∧ nx ≤ n' ∧ z.below (· < n') ∧ LowL L' n' ∧ LowB B' n') →
      ∃ g', AI P E g' { sl := putD s.sl dst (some z), live := L', bx := B', us := (· < n') } (a.put dst v) W' := by
    rintro v W' ⟨g2, r1, r2, rr, r3, r4, hn, hz, hL, hB⟩
    have hg : Goes W W' T := ⟨r3.os, r3.tape, r3.output, r3.size, fun b hb1 hT => r3.block b hb1 hT⟩
    have hF : ∀ b o, g2.F b o → g.F b o ∨ ((T b ∨ W.heap.size ≤ b) ∧ b < W'.heap.size) := fun b o hf => (r3.fmay b o hf).imp id (fun q => ⟨q, r3.fz b o hf⟩)
    have hm : ∀ k, s.us k → k < n' := fun k hk => by have := (hus' k).1 hk; omega
    have hk : Keeps g.F g2.F W W' := r3.keeps
    exact ⟨g2, h.step hd hm hk (fun i hi => (r4 i ((hus' i).1 hi)).1) (fun i hi => (r4 i ((hus' i).1 hi)).2) (h.b.goes hg tMay hk hF)
      ⟨r2.own, r2.ownNe, fun l e hl b hb1 => eMay b (r2.ownMay l e hl b hb1), r2.box, r2.boxNe, fun id cs hid => eMay _ (r2.boxMay id cs hid), r2.boxOwn⟩ rr hL hB r1 hz⟩
  rcases run with ⟨q1, q2⟩ | ⟨v, W', q1, q2⟩
  · exact .inl ⟨q1, q2.mono fun e W' ⟨v, e1, hh⟩ => ⟨v, e1, back v W' hh⟩⟩
  · exact .inr ⟨v, W', q1, back v W' q2⟩

/-- A REGION, its order drawn, at any state. -/
theorem region_runS {ops : Array Oper} {orc : Nat → Option Ch} (hmix : P.follows .mixedOrders = true) (ht : TabOk P tab) {s s' : S} {tr : List Step} {id n0 : Nat}
    (h1 : RunT P tab ops orc tr s s') (h2 : tr.map Step.i = List.range' 0 ops.toList.length) (h3 : NumUp n0 tr) (hok : (backOk ops 0 ops.toList && pairsOk ops (masks ops.toList []) tr) = true) (hd : dstB E.nt ops = true) (h : AI P E g s a W) :
    (Code.region id ops true).wp P (Nrm fun a' W' => ∃ g', AI P E g' s' a' W') a W := by
  have hd := dst_of hd
  refine wp_region_any hmix ?_
  simp only [Bool.and_eq_true] at hok
  obtain ⟨hb, hp⟩ := hok
  obtain ⟨m1, m2⟩ := masks_ok (ops := ops) ops.toList [] (fun k => by simp) (fun i m o hm => by simp at hm)
  have hlen : tr.length = ops.size := by have := congrArg List.length h2; simpa using this
  have hW : AI P E g s a { W with drawn := W.drawn + 1 } := World.drew_ai h
  have hidx : ∀ i, i < ops.size → ∃ x ∈ tr, x.i = i := by
    intro i hi
    have : i ∈ tr.map Step.i := by rw [h2]; simp; omega
    obtain ⟨x, hx, hxi⟩ := List.mem_map.1 this
    exact ⟨x, hx, hxi⟩
  have hlt : ∀ x ∈ tr, x.i < ops.size := by
    intro x hx
    have : x.i ∈ tr.map Step.i := List.mem_map.2 ⟨x, hx, rfl⟩
    rw [h2] at this
    simpa using this
  have hpw : tr.Pairwise (fun x y => x.i < y.i) := by
    have : (tr.map Step.i).Pairwise (· < ·) := by rw [h2]; exact List.pairwise_lt_range'
    exact List.pairwise_map.1 this
  refine any_run ht hd (fun a W g h => ⟨g, h⟩) m1 (by simpa using m2) (fun i o ho e he hbd => ?_) ops.size h1 hW (by omega) (by simp) (fun i o ho hl => ?_) (fun i hi => ?_) hlt hpw (pairsOk_spec hp h3.pair)
  · have := back_of hb i o (by simpa using ho) e he hbd
    omega
  · exfalso
    have hi : i < ops.size := (Array.getElem?_eq_some_iff.1 ho).1
    simp [hi] at hl
  · simp [hi]
    exact hidx i hi
end
end Zed
namespace Zed
open Go
set_option linter.unusedVariables false
set_option linter.unusedSimpArgs false

structure Hp where
  lv : Tr (Option Ow)
  bx : Tr (List Z1)
  nx : Nat
  wr : List Nat
/-- What an effect touches, and what was touched ahead of it. -/
noncomputable def dirt (e : Eff) (w : List Nat) : List Nat := e.put.map Prod.fst ++ (e.add.map Prod.fst ++ (e.kill ++ w))
structure Es where
  sl : Tr Z
  h : Hp
noncomputable def Hp.L (h : Hp) : Nat → Option Ow := fun k => match h.lv.get k with
  | some o => o
  | none => none
noncomputable def Hp.B (h : Hp) : Nat → Option (List Z1) := h.bx.get
noncomputable def Es.den (s : Es) : S := ⟨s.sl.get, s.h.L, s.h.B, (· < s.h.nx)⟩

/-! Values driven to their heads. -/
section
variable {β : Type}
noncomputable def forceN (n : Nat) (c : Nat → β) : β := match n with
  | 0 => c 0
  | k + 1 => c (k + 1)
theorem forceN_eq (n : Nat) (c : Nat → β) : forceN n c = c n := by cases n <;> rfl
noncomputable def forceI (n : Int) (c : Int → β) : β := match n with
  | .ofNat m => forceN m fun m => c (.ofNat m)
  | .negSucc m => forceN m fun m => c (.negSucc m)
theorem forceI_eq (n : Int) (c : Int → β) : forceI n c = c n := by
  cases n with
  | ofNat m => show forceN m (fun m => c (.ofNat m)) = _; rw [forceN_eq]
  | negSucc m => show forceN m (fun m => c (.negSucc m)) = _; rw [forceN_eq]
noncomputable def forceB (b : Bool) (c : Bool → β) : β := match b with
  | true => c true
  | false => c false
theorem forceB_eq (b : Bool) (c : Bool → β) : forceB b c = c b := by cases b <;> rfl
noncomputable def forceC (z : Z1) (c : Z1 → β) : β := match z with
  | .d (.int k n) => forceI n fun n => c (.d (.int k n))
  | .d (.bool b) => forceB b fun b => c (.d (.bool b))
  | .ptr id o => forceN id fun id => forceN o fun o => c (.ptr id o)
  | .hd id o n m => forceN id fun id => forceN o fun o => forceN n fun n => forceN m fun m => c (.hd id o n m)
  | .own l T xs => forceN l fun l => c (.own l T xs)
  | z => c z
theorem forceC_eq (z : Z1) (c : Z1 → β) : forceC z c = c z := by
  unfold forceC
  split <;> simp only [forceI_eq, forceB_eq, forceN_eq]
/-- Heads and numbers of boxes alone; ints may stay as they are. -/
noncomputable def forceCW (z : Z1) (c : Z1 → β) : β := match z with
  | .d (.int k n) => c (.d (.int k n))
  | .d (.bool b) => c (.d (.bool b))
  | .ptr id o => forceN id fun id => forceN o fun o => c (.ptr id o)
  | .hd id o n m => forceN id fun id => forceN o fun o => forceN n fun n => forceN m fun m => c (.hd id o n m)
  | .own l T xs => forceN l fun l => c (.own l T xs)
  | z => c z
theorem forceCW_eq (z : Z1) (c : Z1 → β) : forceCW z c = c z := by
  unfold forceCW
  split <;> simp only [forceN_eq]
noncomputable def forceLWS : List Z1 → (List Z1 → β) → β
  | [], c => c []
  | z :: r, c => forceCW z fun z => forceLWS r fun r => c (z :: r)
noncomputable def forceLW (l : List Z1) : (List Z1 → β) → β :=
  @List.rec Z1 (fun _ => (List Z1 → β) → β) (fun c => c []) (fun z _ ih c => forceCW z fun z => ih fun r => c (z :: r)) l
theorem forceLW_eq : ∀ (l : List Z1) (c : List Z1 → β), forceLW l c = c l
  | [], c => rfl
  | z :: r, c => by
    show forceCW z (fun z => forceLW r fun r => c (z :: r)) = _
    rw [forceCW_eq, forceLW_eq r]
noncomputable def forceZW (z : Z) (c : Z → β) : β := match z with
  | .one (.c z) => forceCW z fun z => c (.one (.c z))
  | .one (.agg cs) => forceLW cs fun cs => c (.one (.agg cs))
  | z => c z
theorem forceZW_eq (z : Z) (c : Z → β) : forceZW z c = c z := by
  unfold forceZW
  split <;> simp only [forceCW_eq, forceLW_eq]
noncomputable def forceLS : List Z1 → (List Z1 → β) → β
  | [], c => c []
  | z :: r, c => forceC z fun z => forceLS r fun r => c (z :: r)
noncomputable def forceL (l : List Z1) : (List Z1 → β) → β :=
  @List.rec Z1 (fun _ => (List Z1 → β) → β) (fun c => c []) (fun z _ ih c => forceC z fun z => ih fun r => c (z :: r)) l
theorem forceL_eq : ∀ (l : List Z1) (c : List Z1 → β), forceL l c = c l
  | [], c => rfl
  | z :: r, c => by
    show forceC z (fun z => forceL r fun r => c (z :: r)) = _
    rw [forceC_eq, forceL_eq r]
noncomputable def forceZ (z : Z) (c : Z → β) : β := match z with
  | .one (.c z) => forceC z fun z => c (.one (.c z))
  | .one (.agg cs) => forceL cs fun cs => c (.one (.agg cs))
  | z => c z
theorem forceZ_eq (z : Z) (c : Z → β) : forceZ z c = c z := by
  unfold forceZ
  split <;> simp only [forceC_eq, forceL_eq]

noncomputable def fuelT : Nat := 24
noncomputable def setS (str : Bool) (dst : Option Nat) (z : Z) (t : Tr Z) (c : Tr Z → Option β) : Option β := match dst with
  | none => c t
  | some d => match str with
    | true => forceZ z fun z => Tr.setK fuelT t d z c
    | false => forceZW z fun z => Tr.setK fuelT t d z c
noncomputable def putS (str : Bool) : List (Nat × List Z1) → Tr (List Z1) → (Tr (List Z1) → Option β) → Option β
  | [], t, c => c t
  | p :: r, t, c => forceLW p.2 fun cs => putS str r t fun t' => Tr.setK fuelT t' p.1 cs c
noncomputable def putL (str : Bool) (l : List (Nat × List Z1)) : Tr (List Z1) → (Tr (List Z1) → Option β) → Option β :=
  @List.rec (Nat × List Z1) (fun _ => Tr (List Z1) → (Tr (List Z1) → Option β) → Option β) (fun t c => c t) (fun p _ ih t c => forceLW p.2 fun cs => ih t fun t' => Tr.setK fuelT t' p.1 cs c) l
noncomputable def addS : List (Nat × Ow) → Tr (Option Ow) → (Tr (Option Ow) → Option β) → Option β
  | [], t, c => c t
  | p :: r, t, c => addS r t fun t' => Tr.setK fuelT t' p.1 (some p.2) c
noncomputable def addL (l : List (Nat × Ow)) : Tr (Option Ow) → (Tr (Option Ow) → Option β) → Option β :=
  @List.rec (Nat × Ow) (fun _ => Tr (Option Ow) → (Tr (Option Ow) → Option β) → Option β) (fun t c => c t) (fun p _ ih t c => ih t fun t' => Tr.setK fuelT t' p.1 (some p.2) c) l
noncomputable def killS : List Nat → Tr (Option Ow) → (Tr (Option Ow) → Option β) → Option β
  | [], t, c => c t
  | k :: r, t, c => killS r t fun t' => Tr.setK fuelT t' k none c
noncomputable def killL (l : List Nat) : Tr (Option Ow) → (Tr (Option Ow) → Option β) → Option β :=
  @List.rec Nat (fun _ => Tr (Option Ow) → (Tr (Option Ow) → Option β) → Option β) (fun t c => c t) (fun k _ ih t c => ih t fun t' => Tr.setK fuelT t' k none c) l
noncomputable def Es.goK (str : Bool) (s : Es) (dst : Option Nat) (z : Z) (e : Eff) (n : Nat) (c : Es → Option β) : Option β :=
  setS str dst z s.sl fun sl => killL e.kill s.h.lv fun lv => addL e.add lv fun lv => putL str e.put s.h.bx fun bx => forceN (Nat.add s.h.nx n) fun nx => c ⟨sl, ⟨lv, bx, nx, dirt e s.h.wr⟩⟩

theorem setS_spec {str : Bool} {dst : Option Nat} {z : Z} {t : Tr Z} {c : Tr Z → Option β} {b : β} (h : setS str dst z t c = some b) : ∃ t', c t' = some b ∧ t'.get = putD t.get dst (some z) := by
  unfold setS at h
  cases dst with
  | none => exact ⟨t, h, rfl⟩
  | some d =>
    have h : Tr.setK fuelT t d z c = some b := by
      cases str
      · simpa only [forceZW_eq] using h
      · simpa only [forceZ_eq] using h
    obtain ⟨t', q1, q2⟩ := Tr.setK_spec _ _ _ _ _ _ h
    refine ⟨t', q1, ?_⟩
    funext j
    rw [q2]; rfl
theorem putL_spec {str : Bool} : ∀ {l : List (Nat × List Z1)} {t : Tr (List Z1)} {c : Tr (List Z1) → Option β} {b : β}, putL str l t c = some b → ∃ t', c t' = some b ∧ ∀ j, t'.get j = match look l j with
    | some cs => some cs
    | none => t.get j
  | [], t, c, b, h => ⟨t, h, fun _ => rfl⟩
  | p :: r, t, c, b, h => by
    have h : putL str r t (fun t' => Tr.setK fuelT t' p.1 p.2 c) = some b := by
      have h : forceLW p.2 (fun cs => putL str r t fun t' => Tr.setK fuelT t' p.1 cs c) = some b := h
      simpa only [forceLW_eq] using h
    obtain ⟨t1, q1, q2⟩ := putL_spec h
    obtain ⟨t2, q3, q4⟩ := Tr.setK_spec _ _ _ _ _ _ q1
    refine ⟨t2, q3, fun j => ?_⟩
    obtain ⟨i, x⟩ := p
    rw [q4, q2]
    simp only [look]
    by_cases hj : j = i
    · subst hj; simp
    · rw [if_neg hj, if_neg (Ne.symm hj)]
theorem addL_spec : ∀ {l : List (Nat × Ow)} {t : Tr (Option Ow)} {c : Tr (Option Ow) → Option β} {b : β}, addL l t c = some b → ∃ t', c t' = some b ∧ ∀ j, t'.get j = match look l j with
    | some e => some (some e)
    | none => t.get j
  | [], t, c, b, h => ⟨t, h, fun _ => rfl⟩
  | p :: r, t, c, b, h => by
    obtain ⟨t1, q1, q2⟩ := addL_spec (l := r) h
    obtain ⟨t2, q3, q4⟩ := Tr.setK_spec _ _ _ _ _ _ q1
    refine ⟨t2, q3, fun j => ?_⟩
    obtain ⟨i, x⟩ := p
    rw [q4, q2]
    simp only [look]
    by_cases hj : j = i
    · subst hj; simp
    · rw [if_neg hj, if_neg (Ne.symm hj)]
theorem killL_spec : ∀ {l : List Nat} {t : Tr (Option Ow)} {c : Tr (Option Ow) → Option β} {b : β}, killL l t c = some b → ∃ t', c t' = some b ∧ ∀ j, t'.get j = if l.contains j then some none else t.get j
  | [], t, c, b, h => ⟨t, h, fun _ => rfl⟩
  | k :: r, t, c, b, h => by
    obtain ⟨t1, q1, q2⟩ := killL_spec (l := r) h
    obtain ⟨t2, q3, q4⟩ := Tr.setK_spec _ _ _ _ _ _ q1
    refine ⟨t2, q3, fun j => ?_⟩
    rw [q4, q2]
    by_cases hj : j = k
    · subst hj; simp
    · simp [hj]
theorem Es.goK_spec {str : Bool} {s : Es} {dst : Option Nat} {z : Z} {e : Eff} {n : Nat} {c : Es → Option β} {b : β} (h : s.goK str dst z e n c = some b) : ∃ s', c s' = some b ∧ s'.den = s.den.go dst z e (used s.den.us s.h.nx n) ∧ s'.h.nx = s.h.nx + n := by
  unfold Es.goK at h
  obtain ⟨sl, h1, q1⟩ := setS_spec h
  obtain ⟨lv, h2, q2⟩ := killL_spec h1
  obtain ⟨lv', h3, q3⟩ := addL_spec h2
  obtain ⟨bx, h4, q4⟩ := putL_spec h3
  rw [forceN_eq] at h4
  refine ⟨_, h4, ?_, rfl⟩
  simp only [Es.den, S.go, S.mk.injEq]
  refine ⟨q1, ?_, ?_, ?_⟩
  · funext k
    simp only [Hp.L, q3, q2, Eff.lv]
    cases look e.add k with
    | some x => rfl
    | none =>
      simp only
      by_cases hk : e.kill.contains k = true
      · rw [if_pos hk, if_pos hk]
      · rw [if_neg hk, if_neg hk]
  · funext k
    simp only [Hp.B, q4, Eff.bv]
    cases look e.put k <;> rfl
  · funext k
    simp only [used, eq_iff_iff, Nat.add_eq]
    omega
end
end Zed
namespace Zed
open Go
set_option linter.unusedVariables false
set_option linter.unusedSimpArgs false

inductive FR where
  | v (z : Z)
  | u (z : Z) (f : Eff)
noncomputable def FR.z : FR → Z
  | .v z => z
  | .u z _ => z
noncomputable def FR.eff : FR → Eff
  | .v _ => Eff.no
  | .u _ f => f
noncomputable def wrapE (k : IntKind) (n : Int) : Int := match k with
  | .u8 => Int.emod n (.ofNat 256)
  | .u16 => Int.emod n (.ofNat 65536)
  | .u32 => Int.emod n (.ofNat 4294967296)
  | .u64 => Int.emod n (.ofNat 18446744073709551616)
  | .i64 => Int.subNatNat (Int.toNat (Int.emod (Int.add n (.ofNat 9223372036854775808)) (.ofNat 18446744073709551616))) 9223372036854775808
  | k => k.wrap n
theorem wrapE_eq (k : IntKind) (n : Int) : wrapE k n = k.wrap n := by
  cases k <;> try rfl
  · show Int.subNatNat (Int.toNat ((n + 9223372036854775808) % 18446744073709551616)) 9223372036854775808 = _
    rw [IntKind.wrap_i64, Int.subNatNat_eq_coe]
    omega
noncomputable def iEq : Int → Int → Bool
  | .ofNat m, .ofNat n => Nat.beq m n
  | .negSucc m, .negSucc n => Nat.beq m n
  | _, _ => false
noncomputable def iLt : Int → Int → Bool
  | .ofNat m, .ofNat n => Nat.blt m n
  | .negSucc _, .ofNat _ => true
  | .ofNat _, .negSucc _ => false
  | .negSucc m, .negSucc n => Nat.blt n m
theorem iEq_eq (a b : Int) : iEq a b = (a == b) := by
  rw [Bool.eq_iff_iff]
  cases a <;> cases b <;> simp [iEq] <;> omega
theorem iLt_eq (a b : Int) : iLt a b = decide (a < b) := by
  rw [Bool.eq_iff_iff]
  cases a <;> cases b <;> simp [iLt] <;> omega
noncomputable def kN : IntKind → Nat
  | .i8 => 0 | .i16 => 1 | .i32 => 2 | .i64 => 3 | .u8 => 4 | .u16 => 5 | .u32 => 6 | .u64 => 7
theorem kN_inj {a b : IntKind} (h : Nat.beq (kN a) (kN b) = true) : a = b := by
  cases a <;> cases b <;> first | rfl | exact absurd h (by decide)

noncomputable def slotV : Option Z → Option V1
  | some (.one v) => some v
  | _ => none
noncomputable def evE (sl : Tr Z) : Operand → Option V1
  | .tmp t => slotV (sl.get t)
  | .const v => constZ v
  | _ => none
theorem evE_ev {s : Es} {x : Operand} {v : V1} (h : evE s.sl x = some v) : s.den.ev x = some v ∧ ∀ t, x = .tmp t → s.den.sl t = some (.one v) := by
  cases x with
  | tmp t =>
    have h : slotV (s.sl.get t) = some v := h
    unfold slotV at h
    split at h
    · rename_i v' hv
      cases h
      have e : s.den.sl t = some (.one v) := hv
      refine ⟨?_, fun t' q => by cases q; exact e⟩
      show (s.den.sl t).bind Z.v = _
      rw [e]; rfl
    · cases h
  | const c => exact ⟨h, fun t q => by cases q⟩
  | global g => cases h
  | func f => cases h

noncomputable def fVal : Option V1 → Option FR
  | some v => some (.v (.one v))
  | none => none
noncomputable def fRead (i : TyI) (cs : List Z1) : Option FR := match readZ i cs with
  | some v => some (.v (.one v))
  | none => none
noncomputable def fLoad2 (o : Nat) : Option TyI → Option (List Z1) → Option FR
  | some i, some cs => match plainB cs with
    | true => fRead i (cs.drop o)
    | false => none
  | _, _ => none
noncomputable def fLoad (tab : Tab) (s : Es) (t : TypeId) : Option V1 → Option FR
  | some (.c (.ptr id o)) => fLoad2 o (tlook tab t) (s.h.bx.get id)
  | _ => none
noncomputable def fField2 (id o : Nat) : Option (Nat × TyI) → Option FR
  | some (off, i) => match i.size with
    | 0 => none
    | _ + 1 => some (.v (.one (.c (.ptr id (o + off)))))
  | none => none
noncomputable def fField (tab : Tab) (t : TypeId) (f : Nat) : Option V1 → Option FR
  | some (.c (.ptr id o)) => fField2 id o (fieldZ tab t f)
  | _ => none
noncomputable def fI (k : IntKind) (n : Int) : Option FR := some (.v (.one (.c (.d (.int k (wrapE k n))))))
noncomputable def fB (b : Bool) : Option FR := some (.v (.one (.c (.d (.bool b)))))
noncomputable def fInt (k : IntKind) (a b : Int) : BinOp → Option FR
  | .add => fI k (a + b)
  | .sub => fI k (a - b)
  | .mul => fI k (a * b)
  | .eql => fB (iEq a b)
  | .neq => fB (!(iEq a b))
  | .lss => fB (iLt a b)
  | .leq => fB (!(iLt b a))
  | .gtr => fB (iLt b a)
  | .geq => fB (!(iLt a b))
  | _ => none
noncomputable def fBin (o : BinOp) : Option V1 → Option V1 → Option FR
  | some (.c (.d (.int k a))), some (.c (.d (.int k' b))) => match Nat.beq (kN k) (kN k') with
    | true => fInt k a b o
    | false => none
  | _, _ => none
noncomputable def fNil : Option V1 → Option FR
  | some (.c (.ptr id o)) => some (.v (.one (.c (.ptr id o))))
  | _ => none
noncomputable def fConv2 (v : V1) : Option TyI → Option TyI → Option FR
  | some ⟨.int _, _, _, _, _, _⟩, some ⟨.int k, _, _, _, _, _⟩ => match v with
    | .c (.d (.int _ n)) => fI k n
    | _ => none
  | _, _ => none
noncomputable def fConv (tab : Tab) (a b : TypeId) : Option V1 → Option FR
  | some v => fConv2 v (tlook tab a) (tlook tab b)
  | none => none
noncomputable def fPick (sl : Tr Z) (x y : Operand) : Option V1 → Option FR
  | some (.c (.d (.bool true))) => fVal (evE sl x)
  | some (.c (.d (.bool false))) => fVal (evE sl y)
  | _ => none
/-- Cells laid over others. -/
noncomputable def overS {β : Type} : List Z1 → Nat → List Z1 → (List Z1 → Option β) → Option β
  | [], 0, [], k => k []
  | c :: cs, 0, [], k => k (c :: cs)
  | _ :: cs, 0, v :: vs, k => overS cs 0 vs fun r => k (v :: r)
  | c :: cs, n + 1, vs, k => overS cs n vs fun r => k (c :: r)
  | _, _, _, _ => none
noncomputable def overK {β : Type} (cs : List Z1) : Nat → List Z1 → (List Z1 → Option β) → Option β :=
  @List.rec Z1 (fun _ => Nat → List Z1 → (List Z1 → Option β) → Option β) (fun o vs k => match o, vs with
    | 0, [] => k []
    | _, _ => none) (fun c cs ih o vs k => match o with
    | 0 => match vs with
      | [] => k (c :: cs)
      | v :: vs => ih 0 vs fun r => k (v :: r)
    | n + 1 => ih n vs fun r => k (c :: r)) cs
noncomputable def fStore3 (id : Nat) (cs : List Z1) : Option FR := match plainB cs with
  | true => some (.u .no ⟨[], [], [(id, cs)]⟩)
  | false => none
noncomputable def fStore2 (id o : Nat) (v : List Z1) : Option TyI → Option (List Z1) → Option FR
  | some i, some cs => match plainB cs, Nat.beq v.length i.size with
    | true, true => overK cs o v (fStore3 id)
    | _, _ => none
  | _, _ => none
noncomputable def fStore (tab : Tab) (s : Es) (t : TypeId) : Option V1 → Option V1 → Option FR
  | some (.c (.ptr id o)), some v => fStore2 id o v.cells (tlook tab t) (s.h.bx.get id)
  | _, _ => none
noncomputable def fHd (tab : Tab) (t : TypeId) (id off n : Nat) (i : Int) : Option FR := match sliceE tab t with
  | some e => match one1 tab e with
    | some _ => match i with
      | .ofNat m => match Nat.blt m n with
        | true => some (.v (.one (.c (.ptr id (off + m)))))
        | false => none
      | .negSucc _ => none
    | none => none
  | none => none
noncomputable def fIdx (tab : Tab) (t : TypeId) : Option V1 → Option V1 → Option FR
  | some (.c (.hd id off n _)), some (.c (.d (.int _ i))) => fHd tab t id off n i
  | _, _ => none
noncomputable def fAlloc (base : Nat) : Option TyI → Option FR
  | some i => some (.u (.one (.c (.ptr base 0))) ⟨[], [], [(base, i.zero.map Z1.d)]⟩)
  | none => none
noncomputable def fBox (base : Nat) : Option V1 → Option FR
  | some v => match plainB v.cells with
    | true => some (.u (.one (.c (.ptr base 0))) ⟨[], [], [(base, v.cells)]⟩)
    | false => none
  | none => none
noncomputable def fastOp (tab : Tab) (s : Es) : Op → Option FR
  | .move x => fVal (evE s.sl x)
  | .assign x => fVal (evE s.sl x)
  | .load t x => fLoad tab s t (evE s.sl x)
  | .fieldAddr t x f => fField tab t f (evE s.sl x)
  | .binOp o _ x y _ => fBin o (evE s.sl x) (evE s.sl y)
  | .nilCheck x => fNil (evE s.sl x)
  | .convert a b x => fConv tab a b (evE s.sl x)
  | .pick c x y => fPick s.sl x y (evE s.sl c)
  | .store t x y => fStore tab s t (evE s.sl x) (evE s.sl y)
  | .indexAddr t x i => fIdx tab t (evE s.sl x) (evE s.sl i)
  | .alloc t => fAlloc s.h.nx (tlook tab t)
  | .box _ x => fBox s.h.nx (evE s.sl x)
  | _ => none

theorem overK_spec {β : Type} : ∀ {cs : List Z1} {o : Nat} {vs : List Z1} {k : List Z1 → Option β} {b : β}, overK cs o vs k = some b → k (cs.take o ++ vs ++ cs.drop (o + vs.length)) = some b ∧ o + vs.length ≤ cs.length
  | [], 0, [], k, b, h => ⟨h, by simp⟩
  | [], 0, v :: vs, k, b, h => absurd (show none = some b from h) (by simp)
  | [], n + 1, vs, k, b, h => absurd (show none = some b from h) (by simp)
  | c :: cs, 0, [], k, b, h => ⟨h, by simp⟩
  | c :: cs, 0, v :: vs, k, b, h => by
    have h : overK cs 0 vs (fun r => k (v :: r)) = some b := h
    obtain ⟨q1, q2⟩ := overK_spec h
    refine ⟨?_, by simp at q2 ⊢; omega⟩
    rw [← q1]
    simp only [List.take_zero, List.nil_append, List.length_cons, List.cons_append]
    rw [show 0 + (vs.length + 1) = vs.length + 1 from by omega, List.drop_succ_cons, Nat.zero_add]
  | c :: cs, n + 1, vs, k, b, h => by
    have h : overK cs n vs (fun r => k (c :: r)) = some b := h
    obtain ⟨q1, q2⟩ := overK_spec h
    refine ⟨?_, by simp at q2 ⊢; omega⟩
    rw [← q1]
    simp only [List.take_succ_cons, List.cons_append]
    rw [show n + 1 + vs.length = (n + vs.length) + 1 from by omega, List.drop_succ_cons]

theorem fast_ok {P : Program} {tab : Tab} {s : Es} {op : Op} {r : FR} (h : fastOp tab s op = some r) : ∃ st, opZ P tab s.h.nx none s.den op = some (st, 1) ∧ st.z = r.z ∧ st.e = r.eff ∧ holds st.C := by
  have val : ∀ {x : Operand} {r : FR}, fVal (evE s.sl x) = some r → ∃ v, s.den.ev x = some v ∧ (∀ t, x = .tmp t → s.den.sl t = some (.one v)) ∧ r = .v (.one v) := by
    intro x r hx
    cases hv : evE s.sl x with
    | none => rw [hv] at hx; cases hx
    | some v => rw [hv] at hx; cases hx; exact ⟨v, (evE_ev hv).1, (evE_ev hv).2, rfl⟩
  unfold fastOp at h
  split at h
  · -- move
    rename_i x
    obtain ⟨v, hv, hs, rfl⟩ := val h
    refine ⟨⟨.one v, Eff.no, [], none⟩, ?_, rfl, rfl, trivial⟩
    have hext : extZ s.den.sl (.move x) = none := by
      cases x with
      | tmp t => simp [extZ, hs t rfl]
      | _ => rfl
    simp [opZ, callZ, hext, newOp, hdOp, hdMake, hdVal, hdSet, itOp, mapOp, rowOp, effOp, valOp, hv, chosen, rdKeys]
  · -- assign
    rename_i x
    obtain ⟨v, hv, hs, rfl⟩ := val h
    refine ⟨⟨.one v, Eff.no, [], none⟩, ?_, rfl, rfl, trivial⟩
    simp [opZ, callZ, extZ, newOp, hdOp, hdMake, hdVal, hdSet, itOp, mapOp, rowOp, effOp, valOp, hv, chosen, rdKeys]
  · -- load
    rename_i t x
    unfold fLoad at h
    split at h
    · rename_i id o hx
      have hv := (evE_ev hx).1
      unfold fLoad2 at h
      split at h
      · rename_i i cs hi hb
        have hb : s.den.bx id = some cs := hb
        split at h
        · rename_i hp
          unfold fRead at h
          split at h
          · rename_i v hr
            cases h
            refine ⟨⟨.one v, Eff.no, [id], none⟩, ?_, rfl, rfl, trivial⟩
            simp [opZ, callZ, extZ, newOp, hdOp, hdMake, hdVal, hdSet, itOp, mapOp, rowOp, effOp, valOp, hv, chosen, rdKeys, hi, hb, hp, hr, V1.keys, Z1.keys]
          · cases h
        · cases h
      · cases h
    · cases h
  · -- fieldAddr
    rename_i t x f
    unfold fField at h
    split at h
    · rename_i id o hx
      have hv := (evE_ev hx).1
      unfold fField2 at h
      split at h
      · rename_i off i hf
        split at h
        · cases h
        · rename_i m hm
          cases h
          refine ⟨⟨.one (.c (.ptr id (o + off))), Eff.no, [], none⟩, ?_, rfl, rfl, trivial⟩
          simp [opZ, callZ, extZ, newOp, hdOp, hdMake, hdVal, hdSet, itOp, mapOp, rowOp, effOp, valOp, hv, chosen, rdKeys, hf, hm]
      · cases h
    · cases h
  · -- binOp
    rename_i o t x y yt
    unfold fBin at h
    split at h
    · rename_i k a k' b hx hy
      have hvx := (evE_ev hx).1
      have hvy := (evE_ev hy).1
      split at h
      · rename_i hk
        have hk := kN_inj hk
        subst hk
        have key : ∀ {d : X}, isShift o = false → binI o k a b = some (d, none) → ∃ st, opZ P tab s.h.nx none s.den (.binOp o t x y yt) = some (st, 1) ∧ st.z = .one (.c (.d d)) ∧ st.e = Eff.no ∧ holds st.C := by
          intro d hs hb
          refine ⟨⟨.one (.c (.d d)), Eff.no, [], none⟩, ?_, rfl, rfl, trivial⟩
          simp [opZ, callZ, extZ, newOp, hdOp, hdMake, hdVal, hdSet, itOp, mapOp, rowOp, effOp, valOp, hvx, hvy, chosen, rdKeys, binZ, hs, hb]
        unfold fInt at h
        split at h
        · cases h; obtain ⟨st, q1, q2, q3, q4⟩ := key (d := .int k (k.wrap (a + b))) rfl rfl; exact ⟨st, q1, by rw [q2]; simp [FR.z, wrapE_eq], q3, q4⟩
        · cases h; obtain ⟨st, q1, q2, q3, q4⟩ := key (d := .int k (k.wrap (a - b))) rfl rfl; exact ⟨st, q1, by rw [q2]; simp [FR.z, wrapE_eq], q3, q4⟩
        · cases h; obtain ⟨st, q1, q2, q3, q4⟩ := key (d := .int k (k.wrap (a * b))) rfl rfl; exact ⟨st, q1, by rw [q2]; simp [FR.z, wrapE_eq], q3, q4⟩
        · cases h; obtain ⟨st, q1, q2, q3, q4⟩ := key (d := .bool (a == b)) rfl rfl; exact ⟨st, q1, by rw [q2]; simp [FR.z, iEq_eq], q3, q4⟩
        · cases h; obtain ⟨st, q1, q2, q3, q4⟩ := key (d := .bool (a != b)) rfl rfl; exact ⟨st, q1, by rw [q2]; simp only [FR.z, iEq_eq]; rfl, q3, q4⟩
        · cases h; obtain ⟨st, q1, q2, q3, q4⟩ := key (d := .bool (decide (a < b))) rfl rfl; exact ⟨st, q1, by rw [q2]; simp [FR.z, iLt_eq], q3, q4⟩
        · cases h; obtain ⟨st, q1, q2, q3, q4⟩ := key (d := .bool (decide (a ≤ b))) rfl rfl; exact ⟨st, q1, by rw [q2]; simp only [FR.z, iLt_eq]; congr 4; rw [Bool.eq_iff_iff]; simp, q3, q4⟩
        · cases h; obtain ⟨st, q1, q2, q3, q4⟩ := key (d := .bool (decide (a > b))) rfl rfl; exact ⟨st, q1, by rw [q2]; simp [FR.z, iLt_eq], q3, q4⟩
        · cases h; obtain ⟨st, q1, q2, q3, q4⟩ := key (d := .bool (decide (a ≥ b))) rfl rfl; exact ⟨st, q1, by rw [q2]; simp only [FR.z, iLt_eq]; congr 4; rw [Bool.eq_iff_iff]; simp, q3, q4⟩
        · cases h
      · cases h
    · cases h
  · -- nilCheck
    rename_i x
    unfold fNil at h
    split at h
    · rename_i id o hx
      cases h
      have hv := (evE_ev hx).1
      refine ⟨⟨.one (.c (.ptr id o)), Eff.no, [], none⟩, ?_, rfl, rfl, trivial⟩
      simp [opZ, callZ, extZ, newOp, hdOp, hdMake, hdVal, hdSet, itOp, mapOp, rowOp, effOp, valOp, hv, chosen, rdKeys, ptrZ]
    · cases h
  · -- convert
    rename_i a b x
    unfold fConv at h
    split at h
    · rename_i v hx
      have hv := (evE_ev hx).1
      unfold fConv2 at h
      split at h
      · rename_i k0 _ _ _ _ _ k _ _ _ _ _ h1 h2
        split at h
        · rename_i k1 n
          cases h
          refine ⟨⟨.one (.c (.d (.int k (k.wrap n)))), Eff.no, [], none⟩, ?_, by simp [FR.z, wrapE_eq], rfl, trivial⟩
          simp [opZ, callZ, extZ, newOp, hdOp, hdMake, hdVal, hdSet, itOp, mapOp, rowOp, effOp, valOp, hv, chosen, rdKeys, convZ, h1, h2]
        · cases h
      · cases h
    · cases h
  · -- pick
    rename_i c x y
    unfold fPick at h
    split at h
    · rename_i hc
      have hvc := (evE_ev hc).1
      obtain ⟨v, hv, hs, rfl⟩ := val h
      refine ⟨⟨.one v, Eff.no, [], none⟩, ?_, rfl, rfl, trivial⟩
      simp [opZ, callZ, extZ, newOp, hdOp, hdMake, hdVal, hdSet, itOp, mapOp, rowOp, effOp, valOp, hv, hvc, chosen, rdKeys]
    · rename_i hc
      have hvc := (evE_ev hc).1
      obtain ⟨v, hv, hs, rfl⟩ := val h
      refine ⟨⟨.one v, Eff.no, [], none⟩, ?_, rfl, rfl, trivial⟩
      simp [opZ, callZ, extZ, newOp, hdOp, hdMake, hdVal, hdSet, itOp, mapOp, rowOp, effOp, valOp, hv, hvc, chosen, rdKeys]
    · cases h
  · -- store
    rename_i t x y
    unfold fStore at h
    split at h
    · rename_i id o v hx hy
      have hvx := (evE_ev hx).1
      have hvy := (evE_ev hy).1
      unfold fStore2 at h
      split at h
      · rename_i i cs hi hb
        have hb : s.den.bx id = some cs := hb
        split at h
        · rename_i hp hl
          have hl : v.cells.length = i.size := by simpa using hl
          obtain ⟨q1, q2⟩ := overK_spec h
          · unfold fStore3 at q1
            split at q1
            · rename_i hp'
              cases q1
              rw [hl] at q2 hp'
              refine ⟨⟨.no, ⟨[], [], [(id, cs.take o ++ v.cells ++ cs.drop (o + i.size))]⟩, [id], cp (o + i.size ≤ cs.length)⟩, ?_, rfl, by rw [← hl]; rfl, q2⟩
              have hp2 : plainB (cs.take o ++ (v.cells ++ cs.drop (o + i.size))) = true := by rw [← List.append_assoc]; exact hp'
              simp [opZ, callZ, extZ, newOp, hdOp, hdMake, hdVal, hdSet, itOp, mapOp, rowOp, effOp, hvx, hvy, chosen, hi, hb, hl, hp, hp2]
            · cases q1
        · cases h
      · cases h
    · cases h
  · -- indexAddr
    rename_i t x ix
    unfold fIdx at h
    split at h
    · rename_i id off n c k i hx hy
      have hvx := (evE_ev hx).1
      have hvy := (evE_ev hy).1
      unfold fHd at h
      split at h
      · rename_i e he
        split at h
        · rename_i zb h1
          split at h
          · rename_i m
            split at h
            · rename_i hlt
              cases h
              have hlt : m < n := by simpa using hlt
              refine ⟨⟨.one (.c (.ptr id (off + m))), Eff.no, [], cp (0 ≤ (Int.ofNat m) ∧ (Int.ofNat m) < n)⟩, ?_, rfl, rfl, ?_⟩
              · simp [opZ, callZ, extZ, newOp, hdOp, hdMake, hdVal, he, h1, hvx, hvy, chosen, intZ]
              · exact ⟨by simp, by simp; exact hlt⟩
            · cases h
          · cases h
        · cases h
      · cases h
    · cases h
  · -- alloc
    rename_i t
    unfold fAlloc at h
    split at h
    · rename_i i hi
      cases h
      refine ⟨⟨.one (.c (.ptr s.h.nx 0)), ⟨[], [], [(s.h.nx, i.zero.map Z1.d)]⟩, [], none⟩, ?_, rfl, rfl, trivial⟩
      simp [opZ, callZ, extZ, newOp, hdOp, hdMake, hdVal, hdSet, itOp, mapOp, rowOp, effOp, chosen, hi]
    · cases h
  · -- box
    rename_i t x
    unfold fBox at h
    split at h
    · rename_i v hx
      have hv := (evE_ev hx).1
      split at h
      · rename_i hp
        cases h
        refine ⟨⟨.one (.c (.ptr s.h.nx 0)), ⟨[], [], [(s.h.nx, v.cells)]⟩, [], none⟩, ?_, rfl, rfl, trivial⟩
        simp [opZ, callZ, extZ, newOp, hdOp, hdMake, hdVal, hdSet, itOp, mapOp, rowOp, effOp, chosen, hv, hp]
      · cases h
    · cases h
  · cases h
end Zed
