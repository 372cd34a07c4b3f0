/- ZED, twenty-first text: a state told with fewer slots and other numbers; nil as a row of the call's own. -/
import Derived.Test.YtakamchmiakicaaDoorZedT
namespace Zed
open Go
set_option linter.unusedVariables false
set_option linter.unusedSimpArgs false

def impLV (τ : List Nat) : List V1 → Option (List V1)
  | [] => some []
  | v :: r => match v.imp τ, impLV τ r with
    | some v', some r' => some (v' :: r')
    | _, _ => none
def Z.imp (τ : List Nat) : Z → Option Z
  | .one v => (v.imp τ).map .one
  | .tup vs => (impLV τ vs).map .tup
  | .no => some .no
def impSl (τ : List Nat) (sl : List (Nat × Z)) : List Nat → Option (List (Nat × Z))
  | [] => some []
  | t :: r => match (look sl t).bind (Z.imp τ), impSl τ sl r with
    | some z, some l => some ((t, z) :: l)
    | _, _ => none
/-- As 'impH', a number that stands for nothing left out. -/
def impD (τ : List Nat) (live : Nat → Option Ow) (bx : Nat → Option (List Z1)) : Nat → List Nat → Option (List (Nat × Ow) × List (Nat × List Z1))
  | _, [] => some ([], [])
  | j, k :: r => match impD τ live bx (j + 1) r with
    | none => none
    | some (L, B) => match bx k with
      | some cs => (impL τ cs).map fun cs' => (match live k with
        | some e => (j, e) :: L
        | none => L, (j, cs') :: B)
      | none => match live k with
        | some e => some ((j, e) :: L, B)
        | none => some (L, B)
def pinB : Nat → Nat → List Nat → Bool
  | 0, _, _ => true
  | n + 1, i, k :: r => k.beq i && pinB n (i + 1) r
  | _ + 1, _, [] => false
theorem pin_of : ∀ {n i : Nat} {l : List Nat}, pinB n i l = true → ∀ j, j < n → l[j]? = some (i + j)
  | n + 1, i, k :: r, h, j, hj => by
    simp only [pinB, Bool.and_eq_true, Nat.beq_eq] at h
    cases j with
    | zero => simp [h.1]
    | succ j =>
      have := pin_of h.2 j (by omega)
      simp only [List.getElem?_cons_succ]
      rw [this]; congr 1; omega
  | n + 1, i, [], h, _, _ => by simp [pinB] at h

def renSt (pk : Nat) (keep μ : List Nat) (s : St) : Option St :=
  match impSl μ s.sl keep, impD μ (lvOf s.live) (look s.bx) 0 μ with
  | some sl, some (L, B) => if nodupB μ && pinB pk 0 μ then some ⟨sl, L.map fun p => (p.1, some p.2), B, μ.length⟩ else none
  | _, _ => none

section
variable {P : Program} {E : Ent} {g : G} {a : Act} {W : World}

theorem impL_low {τ : List Nat} : ∀ {cs cs' : List Z1}, impL τ cs = some cs' → ∀ z ∈ cs', z.below (· < τ.length)
  | [], cs', h, z, hz => by simp [impL] at h; subst h; cases hz
  | c :: r, cs', h, z, hz => by
    simp only [impL] at h
    split at h
    · rename_i c' r' h1 h2
      cases h
      rcases List.mem_cons.1 hz with rfl | hz
      · exact imp_low h1
      · exact impL_low h2 z hz
    · cases h
theorem impV1_low {τ : List Nat} {z z' : V1} (hz : z.imp τ = some z') : z'.below (· < τ.length) := by
  cases z with
  | c z => obtain ⟨w, h1, rfl⟩ := omap hz; exact imp_low h1
  | agg cs => obtain ⟨w, h1, rfl⟩ := omap hz; exact impL_low h1
theorem impLV_spec {τ : List Nat} : ∀ {vs vs' : List V1}, impLV τ vs = some vs' → vs.length = vs'.length ∧ ∀ (j : Nat) (z' : V1), vs'[j]? = some z' → ∃ z, vs[j]? = some z ∧ z.imp τ = some z'
  | [], vs', h => by simp [impLV] at h; subst h; simp
  | v :: r, vs', h => by
    simp only [impLV] at h
    split at h
    · rename_i v' r' h1 h2
      cases h
      obtain ⟨q1, q2⟩ := impLV_spec h2
      refine ⟨by simp [q1], fun j z' hz => ?_⟩
      cases j with
      | zero => simp at hz; subst hz; exact ⟨v, rfl, h1⟩
      | succ j => obtain ⟨z, p1, p2⟩ := q2 j z' (by simpa using hz); exact ⟨z, by simpa using p1, p2⟩
    · cases h
theorem impZ_rz {τ : List Nat} {v : Value} {z z' : Z} (h : RZ W g v z) (hz : z.imp τ = some z') : RZ W (g.via τ) v z' := by
  cases z with
  | one v => obtain ⟨w, h1, rfl⟩ := omap hz; exact impV1_rv h h1
  | tup vs =>
    obtain ⟨w, h1, rfl⟩ := omap hz
    obtain ⟨us, hv, hs, hr⟩ := h
    obtain ⟨q1, q2⟩ := impLV_spec h1
    refine ⟨us, hv, by omega, fun j u x hu hx => ?_⟩
    obtain ⟨z, p1, p2⟩ := q2 j x hx
    exact impV1_rv (hr j u z hu p1) p2
  | no => cases hz; exact h
theorem impZ_low {τ : List Nat} {z z' : Z} (hz : z.imp τ = some z') : z'.below (· < τ.length) := by
  cases z with
  | one v => obtain ⟨w, h1, rfl⟩ := omap hz; exact impV1_low h1
  | tup vs =>
    obtain ⟨w, h1, rfl⟩ := omap hz
    obtain ⟨q1, q2⟩ := impLV_spec h1
    intro x hx
    obtain ⟨j, hj⟩ := List.mem_iff_getElem?.1 hx
    obtain ⟨z, p1, p2⟩ := q2 j x hj
    exact impV1_low p2
  | no => cases hz; trivial

theorem impSl_spec {τ : List Nat} {sl : List (Nat × Z)} : ∀ {keep : List Nat} {l : List (Nat × Z)}, impSl τ sl keep = some l → ∀ t z', look l t = some z' → ∃ z, look sl t = some z ∧ z.imp τ = some z'
  | [], l, h, t, z', hz => by simp [impSl] at h; subst h; cases hz
  | k :: r, l, h, t, z', hz => by
    simp only [impSl] at h
    split at h
    · rename_i z l' h1 h2
      cases h
      simp only [look] at hz
      split at hz
      · rename_i hk; subst hk; cases hz
        exact obind h1
      · exact impSl_spec h2 t z' hz
    · cases h

theorem impD_spec {τ : List Nat} {live : Nat → Option Ow} {bx : Nat → Option (List Z1)} : ∀ {l : List Nat} {j0 : Nat} {L : List (Nat × Ow)} {B : List (Nat × List Z1)}, impD τ live bx j0 l = some (L, B) →
    (∀ j e, look L j = some e → j0 ≤ j ∧ ∃ k, l[j - j0]? = some k ∧ live k = some e) ∧
    (∀ j cs', look B j = some cs' → j0 ≤ j ∧ ∃ k cs, l[j - j0]? = some k ∧ bx k = some cs ∧ impL τ cs = some cs')
  | [], j0, L, B, h => by
    simp only [impD, Option.some.injEq, Prod.mk.injEq] at h
    obtain ⟨rfl, rfl⟩ := h
    exact ⟨by simp [look], by simp [look]⟩
  | k :: r, j0, L, B, h => by
    simp only [impD] at h
    split at h
    · cases h
    · rename_i L' B' hr
      obtain ⟨i1, i2⟩ := impD_spec hr
      have sh : ∀ j, j0 + 1 ≤ j → (k :: r)[j - j0]? = r[j - (j0 + 1)]? := by
        intro j hj
        rw [show j - j0 = (j - (j0 + 1)) + 1 from by omega]
        rfl
      have o1 : ∀ j e, look L' j = some e → j0 ≤ j ∧ ∃ k', (k :: r)[j - j0]? = some k' ∧ live k' = some e := fun j e he => by
        obtain ⟨q1, k', q2⟩ := i1 j e he
        exact ⟨by omega, k', by rw [sh j q1]; exact q2⟩
      have o2 : ∀ j cs', look B' j = some cs' → j0 ≤ j ∧ ∃ k' cs, (k :: r)[j - j0]? = some k' ∧ bx k' = some cs ∧ impL τ cs = some cs' := fun j c hj => by
        obtain ⟨q1, k', q2⟩ := i2 j c hj
        exact ⟨by omega, k', by rw [sh j q1]; exact q2⟩
      split at h
      · rename_i cs hb
        obtain ⟨cs', hc, e⟩ := omap h
        simp only [Prod.mk.injEq] at e
        obtain ⟨rfl, rfl⟩ := e
        refine ⟨fun j e he => ?_, fun j c hj => ?_⟩
        · cases hlk : live k with
          | none => rw [hlk] at he; exact o1 j e he
          | some e0 =>
            rw [hlk] at he
            simp only [look] at he
            split at he
            · rename_i e1; subst e1; cases he
              exact ⟨Nat.le_refl _, k, by simp, hlk⟩
            · exact o1 j e he
        simp only [look] at hj
        split at hj
        · rename_i e; subst e; cases hj
          exact ⟨Nat.le_refl _, k, cs, by simp, hb, hc⟩
        · exact o2 j c hj
      · rename_i hb
        split at h
        · rename_i e0 hc
          cases h
          refine ⟨fun j e he => ?_, o2⟩
          simp only [look] at he
          split at he
          · rename_i e; subst e; cases he
            exact ⟨Nat.le_refl _, k, by simp, hc⟩
          · exact o1 j e he
        · cases h
          exact ⟨o1, o2⟩

theorem lvOf_map (L : List (Nat × Ow)) : lvOf (L.map fun p => (p.1, some p.2)) = look L := by
  funext k
  simp only [lvOf, look_addS]
  cases look L k <;> rfl

theorem HR.via {τ : List Nat} {live : Nat → Option Ow} {bx : Nat → Option (List Z1)} (h : HR P g live bx W) {L : List (Nat × Ow)} {B : List (Nat × List Z1)}
    (i1 : ∀ j e, look L j = some e → ∃ k, τ[j]? = some k ∧ live k = some e) (i2 : ∀ j cs', look B j = some cs' → ∃ k cs, τ[j]? = some k ∧ bx k = some cs ∧ impL τ cs = some cs') : HR P (g.via τ) (look L) (look B) W := by
  intro j T xs e hj he hk
  obtain ⟨k, cs, h1, h2, h3⟩ := i2 j _ hj
  obtain ⟨k', h1', h2'⟩ := i1 j e he
  have hkk : k = k' := Option.some.inj (h1.symm.trans h1')
  subst hkk
  have := h k T xs e (by rw [h2, impL_run h3]) h2' hk
  show RowIs P W g.F e.e (g.ω (τ.getD j 0)) T xs
  rw [getD_of h1]; exact this
theorem HI.via {τ : List Nat} {live : Nat → Option Ow} {bx : Nat → Option (List Z1)} (h : HI P E g live (bc bx) W) (hnd : τ.Nodup) {L : List (Nat × Ow)} {B : List (Nat × List Z1)}
    (i1 : ∀ j e, look L j = some e → ∃ k, τ[j]? = some k ∧ live k = some e) (i2' : ∀ j cs', look B j = some cs' → ∃ k cs, τ[j]? = some k ∧ bx k = some cs ∧ impL τ cs = some cs') : HI P E (g.via τ) (look L) (bc (look B)) W := by
  have i2 : ∀ j cs', bc (look B) j = some cs' → ∃ k cs, τ[j]? = some k ∧ bc bx k = some cs ∧ impL τ cs = some cs' := fun j cs' hj => by
    obtain ⟨hj, hn⟩ := bc_some hj
    obtain ⟨k, cs, h1, h2, h3⟩ := i2' j cs' hj
    exact ⟨k, cs, h1, bc_of h2 (by rw [← isRun_imp h3]; exact hn), h3⟩
  have tInj : ∀ {j j' k : Nat}, τ[j]? = some k → τ[j']? = some k → j = j' := by
    intro j j' k hj hj'
    obtain ⟨h1, h2⟩ := List.getElem?_eq_some_iff.1 hj
    obtain ⟨h3, h4⟩ := List.getElem?_eq_some_iff.1 hj'
    exact (List.getElem_inj hnd).1 (h2.trans h4.symm)
  exact {
    own := fun j e he => by
      obtain ⟨k, h1, h2⟩ := i1 j e he
      show OwnV P W g.F (g.ω (τ.getD j 0)) e
      rw [getD_of h1]; exact h.own k e h2
    ownNe := fun j e j' e' he he' hne b hb1 hb2 => by
      obtain ⟨k, h1, h2⟩ := i1 j e he
      obtain ⟨k', h1', h2'⟩ := i1 j' e' he'
      have hb1 : (g.ω (τ.getD j 0)).ownBlock = some b := hb1
      have hb2 : (g.ω (τ.getD j' 0)).ownBlock = some b := hb2
      rw [getD_of h1] at hb1; rw [getD_of h1'] at hb2
      exact h.ownNe k e k' e' h2 h2' (fun q => hne (tInj h1 (q ▸ h1'))) b hb1 hb2
    ownMay := fun j e he b hb1 => by
      obtain ⟨k, h1, h2⟩ := i1 j e he
      have hb1 : (g.ω (τ.getD j 0)).ownBlock = some b := hb1
      rw [getD_of h1] at hb1
      exact h.ownMay k e h2 b hb1
    box := fun j cs' hj => by
      obtain ⟨k, cs, h1, h2, h3⟩ := i2 j cs' hj
      obtain ⟨q1, q3⟩ := h.box k cs h2
      show BoxIs W (g.via τ) (g.ρ (τ.getD j 0)) cs' ∧ ∀ o, ¬ g.F (g.ρ (τ.getD j 0)) o
      rw [getD_of h1]
      exact ⟨q1.imp h3, q3⟩
    boxNe := fun j j' c c' hj hj' hne hc => by
      obtain ⟨k, cs, h1, h2, h3⟩ := i2 j c hj
      obtain ⟨k', cs', h1', h2', h3'⟩ := i2 j' c' hj'
      have hc : g.ρ (τ.getD j 0) = g.ρ (τ.getD j' 0) := hc
      rw [getD_of h1, getD_of h1'] at hc
      exact h.boxNe k k' cs cs' h2 h2' (fun q => hne (tInj h1 (q ▸ h1'))) hc
    boxMay := fun j c hj => by
      obtain ⟨k, cs, h1, h2, h3⟩ := i2 j c hj
      show E.may (g.ρ (τ.getD j 0))
      rw [getD_of h1]
      exact h.boxMay k cs h2
    boxOwn := fun j c l e hj hl hc => by
      obtain ⟨k, cs, h1, h2, h3⟩ := i2 j c hj
      obtain ⟨k', h1', h2'⟩ := i1 l e hl
      have hc : (g.ω (τ.getD l 0)).ownBlock = some (g.ρ (τ.getD j 0)) := hc
      rw [getD_of h1, getD_of h1'] at hc
      exact h.boxOwn k cs k' e h2 h2' hc }

theorem AI.ren {s s' : St} {keep μ : List Nat} (h : AI P E g s.den a W) (hr : renSt E.pk keep μ s = some s') : AI P E (g.via μ) s'.den a W := by
  unfold renSt at hr
  split at hr
  case h_2 => cases hr
  rename_i sl L B hsl hLB
  split at hr
  case isFalse => cases hr
  rename_i hc
  cases hr
  simp only [Bool.and_eq_true] at hc
  have hnd := nodup_of hc.1
  obtain ⟨i1, i2⟩ := impD_spec hLB
  have i1' : ∀ j e, look L j = some e → ∃ k, μ[j]? = some k ∧ lvOf s.live k = some e := fun j e he => by
    obtain ⟨_, k, h1, h2⟩ := i1 j e he
    exact ⟨k, by simpa using h1, h2⟩
  have i2' : ∀ j cs', look B j = some cs' → ∃ k cs, μ[j]? = some k ∧ look s.bx k = some cs ∧ impL μ cs = some cs' := fun j c hj => by
    obtain ⟨_, k, cs, h1, h2⟩ := i2 j c hj
    exact ⟨k, cs, by simpa using h1, h2⟩
  have lt : ∀ {j k : Nat}, μ[j]? = some k → j < μ.length := fun hj => (List.getElem?_eq_some_iff.1 hj).1
  exact {
    defers := h.defers
    tsz := h.tsz
    slots := fun t z' hz => by
      obtain ⟨z, q1, q2⟩ := impSl_spec hsl t z' hz
      obtain ⟨v, p1, p2⟩ := h.slots t z q1
      exact ⟨v, p1, impZ_rz p2 q2⟩
    low := fun t z' hz => by
      obtain ⟨z, q1, q2⟩ := impSl_spec hsl t z' hz
      exact impZ_low q2
    liveLow := fun l e hl => by
      have hl : lvOf (L.map fun p => (p.1, some p.2)) l = some e := hl
      rw [lvOf_map] at hl
      obtain ⟨k, h1, _⟩ := i1' l e hl
      exact lt h1
    boxLow := fun id cs hid => by
      obtain ⟨k, c, h1, h2, h3⟩ := i2' id cs hid
      exact ⟨lt h1, impL_low h3⟩
    pkLow := fun j hj => lt (pin_of hc.2 j hj)
    pin := fun j hj => by
      have e := pin_of hc.2 j hj
      rw [Nat.zero_add] at e
      show g.ρ (μ.getD j 0) = _ ∧ g.ω (μ.getD j 0) = _
      rw [getD_of e]
      exact h.pin j hj
    b := h.b
    h := by
      show HI P E (g.via μ) (lvOf (L.map fun p => (p.1, some p.2))) (bc (look B)) W
      rw [lvOf_map]
      exact h.h.via hnd i1' i2'
    r := by
      show HR P (g.via μ) (lvOf (L.map fun p => (p.1, some p.2))) (look B) W
      rw [lvOf_map]
      exact h.r.via i1' i2' }
end
end Zed
