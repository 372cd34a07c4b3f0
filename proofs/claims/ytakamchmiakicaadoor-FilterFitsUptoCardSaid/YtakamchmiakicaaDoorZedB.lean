/- ZED, second text: how the world may go on. -/
import Derived.Test.YtakamchmiakicaaDoorZedA
namespace Zed
open Go
set_option linter.unusedVariables false
set_option linter.unusedSimpArgs false

section
variable {P : Program} {E : Ent} {g g' : G} {F F' : Nat → Nat → Prop} {live live' live1 live2 : Nat → Option Ow} {bx bx' bx1 bx2 : Nat → Option (List Z1)} {W W' : World}

theorem cell_of_block {W W' : World} {b o : Nat} (h : W'.heap[b]? = W.heap[b]?) : W'.cell? ⟨b, o, none⟩ = W.cell? ⟨b, o, none⟩ :=
  World.cell?_of_block (a := ⟨b, o, none⟩) h

theorem lt_of_heap {W : World} {b : Nat} {o : Obj} (h : W.heap[b]? = some o) : b < W.heap.size := (Array.getElem?_eq_some_iff.1 h).1

theorem OwnV.lt {v : Value} {e : Ow} (h : OwnV P W F v e) {b : Nat} (hb : v.ownBlock = some b) : b < W.heap.size := by
  rcases h with ⟨rfl, _⟩ | ⟨g, n, cap, cur, fr, rfl, hg, _⟩
  · simp [Value.ownBlock] at hb
  · simp [Value.ownBlock] at hb; subst hb; exact lt_of_heap hg

/-- The world goes on: blocks beside 'Ch' stand. -/
structure Goes (W W' : World) (Ch : Nat → Prop) : Prop where
  os : W'.os = W.os
  tape : W'.tape = W.tape
  output : W'.output = W.output
  size : W.heap.size ≤ W'.heap.size
  block : ∀ b, b < W.heap.size → ¬ Ch b → W'.heap[b]? = W.heap[b]?

theorem Goes.of_grown {row : Option Nat} (h : W.grownBy W' row) : Goes W W' (fun b => row = some b) :=
  ⟨h.os, h.tape, h.output, h.size, fun b hb hn => h.block b hb (fun e => hn e.symm)⟩
theorem Goes.refl (W : World) : Goes W W (fun _ => False) := ⟨rfl, rfl, rfl, Nat.le_refl _, fun _ _ _ => rfl⟩
theorem Goes.drawn (W : World) (n : Nat) : Goes W { W with drawn := n } (fun _ => False) := ⟨rfl, rfl, rfl, Nat.le_refl _, fun _ _ _ => rfl⟩

theorem WB.goes {Ch : Nat → Prop} (h : WB E F W) (hg : Goes W W' Ch) (hCh : ∀ b, Ch b → E.may b) (hk : Keeps F F' W W')
    (hF : ∀ b o, F' b o → F b o ∨ ((Ch b ∨ W.heap.size ≤ b) ∧ b < W'.heap.size)) : WB E F' W' where
  fz b o hf := by
    rcases hF b o hf with h1 | h1
    · exact Nat.lt_of_lt_of_le (h.fz b o h1) hg.size
    · exact h1.2
  os := hg.os.trans h.os
  tape := hg.tape.trans h.tape
  output := hg.output.trans h.output
  size := Nat.le_trans h.size hg.size
  block b hb hT := by
    refine (hg.block b (Nat.lt_of_lt_of_le hb h.size) (fun e => ?_)).trans (h.block b hb hT)
    rcases hCh b e with h1 | h1
    · exact hT h1
    · omega
  keeps := h.keeps.trans hk
  fmay b o hf := by
    rcases hF b o hf with h1 | ⟨h1 | h1, _⟩
    · exact h.fmay b o h1
    · exact .inr (hCh b h1)
    · exact .inr (.inr (Nat.le_trans h.size h1))

/-- What is owned, and the variables, beside what changes. -/
theorem HI.goes {Ch n : Nat → Prop} (h : HI P E g live bx W) (hg : Goes W W' Ch) (hk : Keeps g.F g'.F W W')
    (hF : ∀ b o, g'.F b o → g.F b o ∨ Ch b ∨ W.heap.size ≤ b) (hρ : ∀ i, n i → g'.ρ i = g.ρ i) (hω : ∀ i, n i → g'.ω i = g.ω i)
    (hl : ∀ l e, live' l = some e → n l ∧ live l = some e ∧ ∀ b, (g.ω l).ownBlock = some b → ¬ Ch b)
    (hb : ∀ id cs, bx' id = some cs → n id ∧ bx id = some cs ∧ (∀ z ∈ cs, z.below n) ∧ ¬ Ch (g.ρ id)) : HI P E g' live' bx' W' where
  own l e hle := by
    obtain ⟨h0, h1, h2⟩ := hl l e hle
    rw [hω l h0]
    rcases h.own l e h1 with h3 | ⟨g0, m, cap, cur, fr, hv, hgc, hn, hc, hs, hf, hf1, hf2, hf3⟩
    · exact .inl h3
    · have hgb : (g.ω l).ownBlock = some g0 := by rw [hv]; rfl
      have hlt := lt_of_heap hgc
      refine .inr ⟨g0, m, cap, cur, fr, hv, (hg.block g0 hlt (h2 g0 hgb)).trans hgc, hn, hc, hs, fun o ho => ?_, hf1, hf2, fun hk => ⟨(hf3 hk).1, fun o ho => ?_⟩⟩
      · rcases hF g0 o ho with h4 | h4 | h4
        · exact hf o h4
        · exact absurd h4 (h2 g0 hgb)
        · omega
      · rcases hF g0 o ho with h4 | h4 | h4
        · exact (hf3 hk).2 o h4
        · exact absurd h4 (h2 g0 hgb)
        · omega
  ownNe l e l' e' h1 h2 := by
    obtain ⟨a1, a2, _⟩ := hl l e h1
    obtain ⟨b1, b2, _⟩ := hl l' e' h2
    rw [hω l a1, hω l' b1]
    exact h.ownNe l e l' e' a2 b2
  ownMay l e h1 := by
    obtain ⟨a1, a2, _⟩ := hl l e h1
    rw [hω l a1]
    exact h.ownMay l e a2
  box id cs hid := by
    obtain ⟨h0, h1, h2, h3⟩ := hb id cs hid
    obtain ⟨hbx, hn⟩ := h.box id cs h1
    rw [hρ id h0]
    have hlt := hbx.lt
    refine ⟨?_, fun o ho => ?_⟩
    · rcases hbx with ⟨vs, ty, hh, hr⟩ | ⟨k, k', l, es, cl, hc, hh, hr⟩
      · exact .inl ⟨vs, ty, (hg.block _ hlt h3).trans hh, hr.keep hk h2 hρ hω⟩
      · exact .inr ⟨k, k', l, es, cl, hc, (hg.block _ hlt h3).trans hh, hr⟩
    rcases hF _ o ho with h4 | h4 | h4
    · exact hn o h4
    · exact h3 h4
    · omega
  boxNe id id' cs cs' h1 h2 := by
    obtain ⟨a1, a2, _⟩ := hb id cs h1
    obtain ⟨b1, b2, _⟩ := hb id' cs' h2
    rw [hρ id a1, hρ id' b1]
    exact h.boxNe id id' cs cs' a2 b2
  boxMay id cs h1 := by
    obtain ⟨a1, a2, _⟩ := hb id cs h1
    rw [hρ id a1]
    exact h.boxMay id cs a2
  boxOwn id cs l e h1 h2 := by
    obtain ⟨a1, a2, _⟩ := hb id cs h1
    obtain ⟨b1, b2, _⟩ := hl l e h2
    rw [hρ id a1, hω l b1]
    exact h.boxOwn id cs l e a2 b2

def setN {α : Type} (f : Nat → α) (i : Nat) (x : α) : Nat → α := fun j => if j = i then x else f j
theorem setN_same {α : Type} (f : Nat → α) (i : Nat) (x : α) : setN f i x i = x := by simp [setN]
theorem setN_ne {α : Type} (f : Nat → α) {i j : Nat} (x : α) (h : j ≠ i) : setN f i x j = f j := by simp [setN, h]

/-- Two parts that are apart. -/
theorem HI.union (h1 : HI P E g live1 bx1 W) (h2 : HI P E g live2 bx2 W)
    (hl : ∀ l e, live l = some e → live1 l = some e ∨ live2 l = some e) (hb : ∀ id cs, bx id = some cs → bx1 id = some cs ∨ bx2 id = some cs)
    (ll : ∀ l e l' e', live1 l = some e → live2 l' = some e' → ∀ b, (g.ω l).ownBlock = some b → (g.ω l').ownBlock ≠ some b)
    (bb : ∀ id cs id' cs', bx1 id = some cs → bx2 id' = some cs' → g.ρ id ≠ g.ρ id')
    (bl : ∀ id cs l e, bx1 id = some cs → live2 l = some e → (g.ω l).ownBlock ≠ some (g.ρ id))
    (lb : ∀ id cs l e, bx2 id = some cs → live1 l = some e → (g.ω l).ownBlock ≠ some (g.ρ id)) : HI P E g live bx W where
  own l e h := by
    rcases hl l e h with h | h
    · exact h1.own l e h
    · exact h2.own l e h
  ownNe l e l' e' h h' hne b hb' hc := by
    rcases hl l e h with h | h <;> rcases hl l' e' h' with h' | h'
    · exact h1.ownNe l e l' e' h h' hne b hb' hc
    · exact ll l e l' e' h h' b hb' hc
    · exact ll l' e' l e h' h b hc hb'
    · exact h2.ownNe l e l' e' h h' hne b hb' hc
  ownMay l e h := by
    rcases hl l e h with h | h
    · exact h1.ownMay l e h
    · exact h2.ownMay l e h
  box id cs h := by
    rcases hb id cs h with h | h
    · exact h1.box id cs h
    · exact h2.box id cs h
  boxNe id id' cs cs' h h' hne hc := by
    rcases hb id cs h with h | h <;> rcases hb id' cs' h' with h' | h'
    · exact h1.boxNe id id' cs cs' h h' hne hc
    · exact bb id cs id' cs' h h' hc
    · exact bb id' cs' id cs h' h hc.symm
    · exact h2.boxNe id id' cs cs' h h' hne hc
  boxMay id cs h := by
    rcases hb id cs h with h | h
    · exact h1.boxMay id cs h
    · exact h2.boxMay id cs h
  boxOwn id cs l e h h' := by
    rcases hb id cs h with h | h <;> rcases hl l e h' with h' | h'
    · exact h1.boxOwn id cs l e h h'
    · exact bl id cs l e h h'
    · exact lb id cs l e h h'
    · exact h2.boxOwn id cs l e h h'

theorem HI.less (h : HI P E g live bx W) (hl : ∀ l e, live' l = some e → live l = some e) (hb : ∀ id cs, bx' id = some cs → bx id = some cs) : HI P E g live' bx' W where
  own l e h1 := h.own l e (hl l e h1)
  ownNe l e l' e' h1 h2 := h.ownNe l e l' e' (hl l e h1) (hl l' e' h2)
  ownMay l e h1 := h.ownMay l e (hl l e h1)
  box id cs h1 := h.box id cs (hb id cs h1)
  boxNe id id' cs cs' h1 h2 := h.boxNe id id' cs cs' (hb id cs h1) (hb id' cs' h2)
  boxMay id cs h1 := h.boxMay id cs (hb id cs h1)
  boxOwn id cs l e h1 h2 := h.boxOwn id cs l e (hb id cs h1) (hl l e h2)

/-- One owned row by itself. -/
theorem HI.one_own {l : Nat} {e : Ow} {v : Value} (hω : g.ω l = v) (hv : OwnV P W g.F v e) (hmay : ∀ b, v.ownBlock = some b → E.may b) :
    HI P E g (fun i => if i = l then some e else none) (fun _ => none) W where
  own l' e' h1 := by
    split at h1
    · rename_i hh; subst hh; cases h1; rw [hω]; exact hv
    · cases h1
  ownNe l1 e1 l2 e2 h1 h2 hne := by
    split at h1
    · split at h2
      · exact absurd (by omega) hne
      · cases h2
    · cases h1
  ownMay l' e' h1 b hb := by
    split at h1
    · rename_i hh; subst hh; rw [hω] at hb; exact hmay b hb
    · cases h1
  box id cs h1 := by cases h1
  boxNe id id' cs cs' h1 := by cases h1
  boxMay id cs h1 := by cases h1
  boxOwn id cs l e h1 := by cases h1

/-- One variable by itself. -/
theorem HI.one_box {id : Nat} {cs : List Z1} {r : Nat} (hρ : g.ρ id = r) (hh : BoxIs W g r cs) (hf : ∀ o, ¬ g.F r o) (hmay : E.may r) :
    HI P E g (fun _ => none) (fun i => if i = id then some cs else none) W where
  own l e h1 := by cases h1
  ownNe l1 e1 l2 e2 h1 := by cases h1
  ownMay l e h1 := by cases h1
  box i c h1 := by
    split at h1
    · rename_i hi; subst hi; cases h1; rw [hρ]; exact ⟨hh, hf⟩
    · cases h1
  boxNe i j c d h1 h2 hij := by
    split at h1
    · split at h2
      · exact absurd (by omega) hij
      · cases h2
    · cases h1
  boxMay i c h1 := by
    split at h1
    · rename_i hi; subst hi; rw [hρ]; exact hmay
    · cases h1
  boxOwn i c l e h1 h2 := by cases h2

/-- Rows that may be written, beside what changes. -/
theorem HR.goes {Ch n : Nat → Prop} (h : HR P g live bx W) (hI : HI P E g live (bc bx) W) (hg : Goes W W' Ch) (hk : Keeps g.F g'.F W W') (hω : ∀ i, n i → g'.ω i = g.ω i)
    (hl : ∀ id T xs e, bx' id = some [.run T xs] → live' id = some e → e.k = 2 → n id ∧ bx id = some [.run T xs] ∧ live id = some e ∧ ∀ b, (g.ω id).ownBlock = some b → ¬ Ch b) : HR P g' live' bx' W' := by
  intro id T xs e h1 h2 h3
  obtain ⟨q0, q1, q2, q3⟩ := hl id T xs e h1 h2 h3
  rw [hω id q0]
  exact (h id T xs e q1 q2 h3).keep hk (fun b hb => hg.block b ((hI.own id e q2).lt hb) (q3 b hb))
theorem HR.less (h : HR P g live bx W) (hl : ∀ id T xs e, bx' id = some [.run T xs] → live' id = some e → e.k = 2 → bx id = some [.run T xs] ∧ live id = some e) : HR P g live' bx' W :=
  fun id T xs e h1 h2 h3 => h id T xs e (hl id T xs e h1 h2 h3).1 (hl id T xs e h1 h2 h3).2 h3

theorem Keeps.drawn (W : World) (n : Nat) (F : Nat → Nat → Prop) : Keeps F F W { W with drawn := n } := ⟨fun _ _ h => h, fun _ _ _ => rfl⟩
theorem Keeps.of_goes {Ch : Nat → Prop} (hg : Goes W W' Ch) (hf : ∀ b o, F b o → b < W.heap.size ∧ ¬ Ch b) (hs : ∀ b o, F b o → F' b o) : Keeps F F' W W' :=
  ⟨hs, fun b q h => cell_of_block (hg.block b (hf b q h).1 (hf b q h).2)⟩

end
end Zed
