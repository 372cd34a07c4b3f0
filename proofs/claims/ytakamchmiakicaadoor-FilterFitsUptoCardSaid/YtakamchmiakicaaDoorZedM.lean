/- ZED, thirteenth text: a call, in the caller's numbers. -/
import Derived.Test.YtakamchmiakicaaDoorZedL
namespace Zed
open Go
set_option linter.unusedVariables false
set_option linter.unusedSimpArgs false

theorem exp_rc {W : World} {g g3 : G} {σ : Nat → Nat} {n : Nat} (hρ : ∀ j, j < n → g3.ρ (σ j) = g.ρ j) (hω : ∀ j, j < n → g3.ω (σ j) = g.ω j) (hF : g3.F = g.F) {v : Value} {z : Z1} (hz : z.below (· < n)) (h : RC W g v z) : RC W g3 v (z.exp σ) := by
  cases z with
  | d x => show RD W g3.F v x.raw; rw [hF]; exact h
  | own l sz xs => exact ⟨by rw [hF]; exact h.1, (hω l hz).trans h.2⟩
  | ptr id off => show v = .pointer (some ⟨g3.ρ (σ id), off, none⟩); rw [hρ id hz]; exact h
  | nn T xs => exact ⟨by rw [hF]; exact h.1, h.2⟩
  | pix id off n i => show _ ∧ v = .pointer (some ⟨g3.ρ (σ id), _, none⟩); rw [hρ id hz]; exact h
  | row l T => show g3.ω (σ l) = v ∧ _; rw [hω l hz]; exact h
  | pel l T i off => show ∃ b N cap, g3.ω (σ l) = _ ∧ _; rw [hω l hz]; exact h
  | run T xs => exact h.elim
  | mref id => show v = .map (some (g3.ρ (σ id))); rw [hρ id hz]; exact h
  | mp k k' l => exact h.elim
  | el cs => 
    obtain ⟨b, o, hv, vs, h1, h2⟩ := h
    exact ⟨b, o, hv, vs, by rw [hF]; exact h1, by rw [hF]; exact h2⟩
theorem exp_rcs {W : World} {g g3 : G} {σ : Nat → Nat} {n : Nat} (hρ : ∀ j, j < n → g3.ρ (σ j) = g.ρ j) (hω : ∀ j, j < n → g3.ω (σ j) = g.ω j) (hF : g3.F = g.F) {vs : List Value} {cs : List Z1} (hz : ∀ c ∈ cs, c.below (· < n)) (h : RCs W g vs cs) : RCs W g3 vs (cs.map (Z1.exp σ)) := by
  refine ⟨by simp [h.1], fun j v z h1 h2 => ?_⟩
  rw [List.getElem?_map] at h2
  obtain ⟨z0, q1, rfl⟩ := omap h2
  exact exp_rc hρ hω hF (hz z0 (List.mem_of_getElem? q1)) (h.2 j v z0 h1 q1)
theorem exp_rv {W : World} {g g3 : G} {σ : Nat → Nat} {n : Nat} (hρ : ∀ j, j < n → g3.ρ (σ j) = g.ρ j) (hω : ∀ j, j < n → g3.ω (σ j) = g.ω j) (hF : g3.F = g.F) {v : Value} {z : V1} (hz : z.below (· < n)) (h : RV W g v z) : RV W g3 v (z.exp σ) := by
  cases z with
  | c z => exact exp_rc hρ hω hF hz h
  | agg cs => obtain ⟨vs, hv, hr⟩ := h; exact ⟨vs, hv, exp_rcs hρ hω hF hz hr⟩
theorem exp_rz {W : World} {g g3 : G} {σ : Nat → Nat} {n : Nat} (hρ : ∀ j, j < n → g3.ρ (σ j) = g.ρ j) (hω : ∀ j, j < n → g3.ω (σ j) = g.ω j) (hF : g3.F = g.F) {v : Value} {z : Z} (hz : z.below (· < n)) (h : RZ W g v z) : RZ W g3 v (z.exp σ) := by
  cases z with
  | one v => exact exp_rv hρ hω hF hz h
  | tup vs =>
    obtain ⟨us, hv, hs, hr⟩ := h
    refine ⟨us, hv, by simp [hs], fun j u z h1 h2 => ?_⟩
    rw [List.getElem?_map] at h2
    obtain ⟨z0, q1, rfl⟩ := omap h2
    exact exp_rv hρ hω hF (hz z0 (List.mem_of_getElem? q1)) (hr j u z0 h1 q1)
  | no => exact h

theorem exp_low {σ : Nat → Nat} {n : Nat} {m : Nat → Prop} (hσ : ∀ j, j < n → m (σ j)) {z : Z1} (h : z.below (· < n)) : (z.exp σ).below m := by
  cases z with
  | d x => trivial
  | own l sz xs => exact hσ l h
  | ptr id off => exact hσ id h
  | el cs => trivial
  | nn T xs => trivial
  | pix id off n i => exact hσ id h
  | row l T => exact hσ l h
  | pel l T i off => exact hσ l h
  | run T xs => trivial
  | mref id => exact hσ id h
  | mp k k' l => trivial
theorem exp_run {σ : Nat → Nat} {z : Z1} {T : K} {xs : List T.den} (h : z.exp σ = .run T xs) : z = .run T xs := by
  cases z <;> first | (cases h; done) | exact h
theorem isRun_exp {σ : Nat → Nat} {cs : List Z1} : isRun (cs.map (Z1.exp σ)) = isRun cs := by
  cases cs with
  | nil => rfl
  | cons z r => cases r with
    | cons w r => rw [List.map_cons, List.map_cons, isRun_two, isRun_two]
    | nil => cases z <;> rfl
theorem expL_run {σ : Nat → Nat} {cs : List Z1} {T : K} {xs : List T.den} (h : cs.map (Z1.exp σ) = [.run T xs]) : cs = [.run T xs] := by
  cases cs with
  | nil => cases h
  | cons z r =>
    simp only [List.map_cons, List.cons.injEq, List.map_eq_nil_iff] at h
    rw [exp_run h.1, h.2]
theorem BoxIs.exp {W : World} {g g3 : G} {σ : Nat → Nat} {n : Nat} (hρ : ∀ j, j < n → g3.ρ (σ j) = g.ρ j) (hω : ∀ j, j < n → g3.ω (σ j) = g.ω j) (hF : g3.F = g.F) {b : Nat} {cs : List Z1} (hz : ∀ c ∈ cs, c.below (· < n)) (h : BoxIs W g b cs) : BoxIs W g3 b (cs.map (Z1.exp σ)) := by
  rcases h with ⟨vs, ty, hh, hr⟩ | ⟨k, k', l, es, cl, rfl, hh, hr⟩
  · exact .inl ⟨vs, ty, hh, exp_rcs hρ hω hF hz hr⟩
  · exact .inr ⟨k, k', l, es, cl, rfl, hh, hr⟩
theorem exp_lowv {σ : Nat → Nat} {n : Nat} {m : Nat → Prop} (hσ : ∀ j, j < n → m (σ j)) {z : V1} (h : z.below (· < n)) : (z.exp σ).below m := by
  cases z with
  | c z => exact exp_low hσ h
  | agg cs => intro c hc; obtain ⟨c0, h1, rfl⟩ := List.mem_map.1 hc; exact exp_low hσ (h c0 h1)
theorem exp_lowz {σ : Nat → Nat} {n : Nat} {m : Nat → Prop} (hσ : ∀ j, j < n → m (σ j)) {z : Z} (h : z.below (· < n)) : (z.exp σ).below m := by
  cases z with
  | one v => exact exp_lowv hσ h
  | tup vs => intro c hc; obtain ⟨c0, h1, rfl⟩ := List.mem_map.1 hc; exact exp_lowv hσ (h c0 h1)
  | no => trivial

theorem look_map {α β : Type} {σ : Nat → Nat} {f : α → β} : ∀ {l : List (Nat × α)} {k : Nat} {y : β}, look (l.map fun p => (σ p.1, f p.2)) k = some y → ∃ j x, look l j = some x ∧ σ j = k ∧ f x = y
  | [], _, _, h => by cases h
  | (i, x) :: l, k, y, h => by
    simp only [List.map_cons, look] at h
    split at h
    · rename_i hk; cases h; exact ⟨i, x, by simp [look], hk, rfl⟩
    · rename_i hk
      obtain ⟨j, x', h1, h2, h3⟩ := look_map h
      refine ⟨j, x', ?_, h2, h3⟩
      simp only [look]
      rw [if_neg (fun e => hk (by rw [e]; exact h2))]
      exact h1
theorem look_map_some {α β : Type} {σ : Nat → Nat} {f : α → β} : ∀ {l : List (Nat × α)} {j : Nat}, (look l j).isSome → (look (l.map fun p => (σ p.1, f p.2)) (σ j)).isSome
  | [], _, h => by cases h
  | (i, x) :: l, j, h => by
    simp only [List.map_cons, look] at h ⊢
    split
    · rfl
    · rename_i hne
      rw [if_neg (fun e => hne (by rw [e]))] at h
      exact look_map_some h

/-- What a call does to the caller's memory. -/
def Out.eff (τ : List Nat) (base : Nat) (o : Out) : Eff :=
  ⟨τ, o.live.map fun p => (sig τ base p.1, p.2), o.bx.map fun p => (sig τ base p.1, p.2.map (Z1.exp (sig τ base)))⟩

theorem impH_dead {τ : List Nat} {live : Nat → Option Ow} {bx : Nat → Option (List Z1)} {k : Nat} (hb : bx k = none) (hl : live k = none) : ∀ {l : List Nat} {j0 : Nat} {x}, k ∈ l → impH τ live bx j0 l ≠ some x
  | [], _, _, h => by cases h
  | k' :: r, j0, x, h => by
    intro hx
    simp only [impH] at hx
    split at hx
    · cases hx
    · rename_i L' B' hr
      rcases List.mem_cons.1 h with e | h'
      · subst e; simp only [hb, hl] at hx; cases hx
      · exact impH_dead hb hl h' hr

section
open Classical
variable {P : Program} {E : Ent} {g : G} {s : S} {a : Act} {W W' : World}

/-- THE CALL. -/
theorem AI.call (h : AI P E g s a W) {dst : Option Nat} {f : FuncId} {args : List Operand} {τ : List Nat} {nk : List (Nat × Nat × K)} {inn : Inn} {out : Out} {base : Nat} {n' : Nat → Prop} (hin : callIn τ nk s.live s.bx s.ev args = some inn) (hf : FnOK P f inn out)
    (hd : ∀ d, dst = some d → d < E.nt) (hb : ∀ j, j < out.n → ¬ s.us (base + j)) (hm : ∀ k, s.us k → n' k) (hn : ∀ j, j < out.n → n' (base + j)) :
    Invoked P f (args.map a.eval).toArray W fun v W' => ∃ g', AI P E g' (s.go dst (out.val.exp (sig τ base)) (out.eff τ base) n') (a.put dst v) W' := by
  unfold callIn at hin
  split at hin
  case h_2 => cases hin
  rename_i vs L B hvs hLB
  split at hin
  case isFalse => cases hin
  rename_i hnd
  cases hin
  have hnd := nodup_of hnd
  obtain ⟨hok, hf⟩ := hf
  obtain ⟨hv1', hv2'⟩ := impV_rv h hvs
  obtain ⟨hv1, hv2⟩ := castNil_rv (us := args.map a.eval) (nk := nk) ⟨by simpa using hv1', hv2'⟩
  rw [List.length_map] at hv1
  obtain ⟨i1, i2, i3⟩ := impH_spec hLB
  -- the callee's world
  let T : Nat → Prop := fun b => ∃ k ∈ τ, (∃ cs, bc s.bx k = some cs ∧ g.ρ k = b) ∨ (∃ e, s.live k = some e ∧ (g.ω k).ownBlock = some b)
  let E' : Ent := ⟨W, g.F, T, τ.length, (g.via τ).ρ, (g.via τ).ω, 0, []⟩
  have hlt : ∀ {j k : Nat}, τ[j]? = some k → j < τ.length := fun hj => (List.getElem?_eq_some_iff.1 hj).1
  have hget : ∀ {j k : Nat}, τ[j]? = some k → τ.getD j 0 = k := fun hj => getD_of hj
  have tInj : ∀ {j j' k : Nat}, τ[j]? = some k → τ[j']? = some k → j = j' := by
    intro j j' k hj hj'
    obtain ⟨h1, h2⟩ := List.getElem?_eq_some_iff.1 hj
    obtain ⟨h3, h4⟩ := List.getElem?_eq_some_iff.1 hj'
    exact (List.getElem_inj hnd).1 (h2.trans h4.symm)
  have hLk : ∀ j e, look L j = some e → ∃ k, τ[j]? = some k ∧ s.live k = some e := fun j e he => by
    obtain ⟨_, k, h1, h2⟩ := i1 j e he
    exact ⟨k, by simpa using h1, h2⟩
  have hBk : ∀ j cs', look B j = some cs' → ∃ k cs, τ[j]? = some k ∧ s.bx k = some cs ∧ impL τ cs = some cs' := fun j cs' hj => by
    obtain ⟨_, k, cs, h1, h2, h3⟩ := i2 j cs' hj
    exact ⟨k, cs, by simpa using h1, h2, h3⟩
  have hBc : ∀ j cs', bc (look B) j = some cs' → ∃ k cs, τ[j]? = some k ∧ bc s.bx k = some cs ∧ impL τ cs = some cs' := fun j cs' hj => by
    obtain ⟨hj, hn⟩ := bc_some hj
    obtain ⟨k, cs, h1, h2, h3⟩ := hBk j cs' hj
    exact ⟨k, cs, h1, bc_of h2 (by rw [← isRun_imp h3]; exact hn), h3⟩
  have hτ : ∀ k ∈ τ, s.us k := by
    intro k hk
    obtain ⟨j, hj⟩ := List.mem_iff_getElem?.1 hk
    cases hbk : s.bx k with
    | some cs => exact (h.boxLow k cs hbk).1
    | none =>
      cases hlk : s.live k with
      | some e => exact h.liveLow k e hlk
      | none => exact absurd hLB (impH_dead hbk hlk hk)
  have hHR : HR P (g.via τ) (look L) (look B) W := fun j T xs e hj he hk => by
    obtain ⟨k, cs, h1, h2, h3⟩ := hBk j _ hj
    obtain ⟨k', h1', h2'⟩ := hLk j e he
    have hkk : k = k' := Option.some.inj (h1.symm.trans h1')
    subst hkk
    have := h.r k T xs e (by rw [h2, impL_run h3]) h2' hk
    show RowIs P W g.F e.e (g.ω (τ.getD j 0)) T xs
    rw [hget h1]; exact this
  have hHI : HI P E' (g.via τ) (look L) (bc (look B)) W := {
    own := fun j e he => by
      obtain ⟨k, h1, h2⟩ := hLk j e he
      show OwnV P W g.F (g.ω (τ.getD j 0)) e
      rw [hget h1]; exact h.h.own k e h2
    ownNe := fun j e j' e' he he' hne b hb1 hb2 => by
      obtain ⟨k, h1, h2⟩ := hLk j e he
      obtain ⟨k', h1', h2'⟩ := hLk j' e' he'
      have hb1 : (g.ω (τ.getD j 0)).ownBlock = some b := hb1
      have hb2 : (g.ω (τ.getD j' 0)).ownBlock = some b := hb2
      rw [hget h1] at hb1; rw [hget h1'] at hb2
      exact h.h.ownNe k e k' e' h2 h2' (fun q => hne (tInj h1 (q ▸ h1'))) b hb1 hb2
    ownMay := fun j e he b hb1 => by
      obtain ⟨k, h1, h2⟩ := hLk j e he
      have hb1 : (g.ω (τ.getD j 0)).ownBlock = some b := hb1
      rw [hget h1] at hb1
      exact .inl ⟨k, List.mem_of_getElem? h1, .inr ⟨e, h2, hb1⟩⟩
    box := fun j cs' hj => by
      obtain ⟨k, cs, h1, h2, h3⟩ := hBc j cs' hj
      obtain ⟨q1, q3⟩ := h.h.box k cs h2
      show BoxIs W (g.via τ) (g.ρ (τ.getD j 0)) cs' ∧ ∀ o, ¬ g.F (g.ρ (τ.getD j 0)) o
      rw [hget h1]
      exact ⟨q1.imp h3, q3⟩
    boxNe := fun j j' c c' hj hj' hne hc => by
      obtain ⟨k, cs, h1, h2, h3⟩ := hBc j c hj
      obtain ⟨k', cs', h1', h2', h3'⟩ := hBc j' c' hj'
      have hc : g.ρ (τ.getD j 0) = g.ρ (τ.getD j' 0) := hc
      rw [hget h1, hget h1'] at hc
      exact h.h.boxNe k k' cs cs' h2 h2' (fun q => hne (tInj h1 (q ▸ h1'))) hc
    boxMay := fun j c hj => by
      obtain ⟨k, cs, h1, h2, h3⟩ := hBc j c hj
      show E'.may (g.ρ (τ.getD j 0))
      rw [hget h1]
      exact .inl ⟨k, List.mem_of_getElem? h1, .inl ⟨cs, h2, rfl⟩⟩
    boxOwn := fun j c l e hj hl hc => by
      obtain ⟨k, cs, h1, h2, h3⟩ := hBc j c hj
      obtain ⟨k', h1', h2'⟩ := hLk l e hl
      have hc : (g.ω (τ.getD l 0)).ownBlock = some (g.ρ (τ.getD j 0)) := hc
      rw [hget h1, hget h1'] at hc
      exact h.h.boxOwn k cs k' e h2 h2' hc }
  have hWB : WB E' g.F W := ⟨h.b.fz, rfl, rfl, rfl, Nat.le_refl _, fun _ _ _ => rfl, Keeps.refl _ _, fun b o hf => .inl hf⟩
  have run := hf E' (g.via τ) W (args.map a.eval).toArray (by simp [hv1]) (fun j v z q1 q2 => hv2 j v z (by simpa using q1) q2) rfl (fun j _ => ⟨rfl, rfl⟩) rfl rfl hHI hHR hWB
  -- and back
  have back : ∀ v W', (∃ g', RZ W' g' v out.val ∧ HI P E' g' (look out.live) (bc (look out.bx)) W' ∧ HR P g' (look out.live) (look out.bx) W' ∧ WB E' g'.F W' ∧ ∀ j, j < τ.length → g'.ρ j = (g.via τ).ρ j ∧ g'.ω j = (g.via τ).ω j) →
      ∃ g', AI P E g' (s.go dst (out.val.exp (sig τ base)) (out.eff τ base) n') (a.put dst v) W' := by
    rintro v W' ⟨g2, r1, r2, rr, r3, r4⟩
    simp only [Out.ok, Bool.and_eq_true, List.all_eq_true, Nat.blt_eq, Nat.ble_eq] at hok
    obtain ⟨⟨⟨⟨o1, o2⟩, o3⟩, o4⟩, o5⟩ := hok
    let g3 : G := ⟨g2.F, fun k => if s.us k then g.ρ k else g2.ρ (k - base), fun k => if s.us k then g.ω k else g2.ω (k - base)⟩
    have hA : ∀ {l : Nat} {e : Ow}, look (out.eff τ base).add l = some e → ∃ j, look out.live j = some e ∧ sig τ base j = l ∧ j < out.n := by
      intro l e hl
      obtain ⟨j, x, q1, q2, q3⟩ := look_map (σ := sig τ base) (f := fun e : Ow => e) hl
      exact ⟨j, by rw [← q3]; exact q1, q2, o2 _ (look_mem q1)⟩
    have hB' : ∀ {i : Nat} {c : List Z1}, look (out.eff τ base).put i = some c → ∃ j c0, look out.bx j = some c0 ∧ sig τ base j = i ∧ c0.map (Z1.exp (sig τ base)) = c ∧ j < out.n ∧ ∀ z ∈ c0, z.below (· < out.n) := by
      intro i c hi
      obtain ⟨j, x, q1, q2, q3⟩ := look_map (σ := sig τ base) (f := fun c : List Z1 => c.map (Z1.exp (sig τ base))) hi
      obtain ⟨p1, p2⟩ := o3 _ (look_mem q1)
      exact ⟨j, x, q1, q2, q3, p1, fun z hz => Z1.low_of (p2 z hz)⟩
    have sigLt : ∀ j, j < τ.length → sig τ base j ∈ τ ∧ s.us (sig τ base j) := by
      intro j hj
      have e : τ[j]? = some (τ.getD j 0) := by simp [List.getD, List.getElem?_eq_getElem hj]
      have hmem := List.mem_of_getElem? e
      simp only [sig, if_pos hj]
      exact ⟨hmem, hτ _ hmem⟩
    have sρ : ∀ j, j < out.n → g3.ρ (sig τ base j) = g2.ρ j := by
      intro j hjn
      by_cases hj : j < τ.length
      · show (if s.us (sig τ base j) then g.ρ (sig τ base j) else _) = _
        rw [if_pos (sigLt j hj).2, (r4 j hj).1]
        simp only [sig, if_pos hj]; rfl
      · show (if s.us (sig τ base j) then g.ρ (sig τ base j) else g2.ρ (sig τ base j - base)) = _
        have : sig τ base j = base + j := by simp only [sig, if_neg hj]
        rw [this, if_neg (hb j hjn)]; congr 1; omega
    have sω : ∀ j, j < out.n → g3.ω (sig τ base j) = g2.ω j := by
      intro j hjn
      by_cases hj : j < τ.length
      · show (if s.us (sig τ base j) then g.ω (sig τ base j) else _) = _
        rw [if_pos (sigLt j hj).2, (r4 j hj).2]
        simp only [sig, if_pos hj]; rfl
      · show (if s.us (sig τ base j) then g.ω (sig τ base j) else g2.ω (sig τ base j - base)) = _
        have : sig τ base j = base + j := by simp only [sig, if_neg hj]
        rw [this, if_neg (hb j hjn)]; congr 1; omega
    have sigB : ∀ j, j < out.n → n' (sig τ base j) := by
      intro j hj
      by_cases hj' : j < τ.length
      · exact hm _ (sigLt j hj').2
      · simp only [sig, if_neg hj']; exact hn j hj
    have hlow : ∀ {i : Nat}, s.us i → g3.ρ i = g.ρ i ∧ g3.ω i = g.ω i := by
      intro i hi
      exact ⟨if_pos hi, if_pos hi⟩
    have tMay : ∀ b, T b → E.may b := by
      rintro b ⟨k, _, ⟨cs, h1, rfl⟩ | ⟨e, h1, h2⟩⟩
      · exact h.h.boxMay k cs h1
      · exact h.h.ownMay k e h1 b h2
    have eMay : ∀ b, E'.may b → E.may b := by
      rintro b (hT | hge)
      · exact tMay b hT
      · exact .inr (Nat.le_trans h.b.size hge)
    have hg : Goes W W' T := ⟨r3.os, r3.tape, r3.output, r3.size, fun b hb1 hT => r3.block b hb1 hT⟩
    have hk : Keeps g.F g3.F W W' := r3.keeps
    have hF : ∀ b o, g3.F b o → g.F b o ∨ ((T b ∨ W.heap.size ≤ b) ∧ b < W'.heap.size) := fun b o hf => (r3.fmay b o hf).imp id (fun q => ⟨q, r3.fz b o hf⟩)
    have apartB : ∀ {k : Nat} {cs : List Z1}, bc s.bx k = some cs → k ∉ τ → ¬ T (g.ρ k) := by
      rintro k cs hk hkt ⟨k', hk', ⟨cs', h1, h2⟩ | ⟨e, h1, h2⟩⟩
      · exact h.h.boxNe k' k cs' cs h1 hk (fun q => hkt (q ▸ hk')) h2
      · exact h.h.boxOwn k cs k' e hk h1 h2
    have apartL : ∀ {k : Nat} {e : Ow} {b : Nat}, s.live k = some e → k ∉ τ → (g.ω k).ownBlock = some b → ¬ T b := by
      rintro k e b hk hkt hb1 ⟨k', hk', ⟨cs', h1, h2⟩ | ⟨e', h1, h2⟩⟩
      · exact h.h.boxOwn k' cs' k e h1 hk (h2 ▸ hb1)
      · exact h.h.ownNe k' e' k e h1 hk (fun q => hkt (q ▸ hk')) b h2 hb1
    have hBc' : ∀ {i : Nat} {c : List Z1}, bc (look (out.eff τ base).put) i = some c → ∃ j c0, bc (look out.bx) j = some c0 ∧ sig τ base j = i ∧ c0.map (Z1.exp (sig τ base)) = c ∧ j < out.n ∧ ∀ z ∈ c0, z.below (· < out.n) := by
      intro i c hi
      obtain ⟨hi, hn⟩ := bc_some hi
      obtain ⟨j, c0, q1, q2, q3, q4, q5⟩ := hB' hi
      exact ⟨j, c0, bc_of q1 (by rw [← isRun_exp (σ := sig τ base), q3]; exact hn), q2, q3, q4, q5⟩
    have h1 : HI P E g3 (fun k => if τ.contains k then none else s.live k) (fun k => if τ.contains k then none else bc s.bx k) W' :=
      h.h.goes (n := s.us) hg hk (fun b o hf => (hF b o hf).imp id (fun q => q.1)) (fun i hi => (hlow hi).1) (fun i hi => (hlow hi).2)
        (fun l e hl => by
          split at hl
          · cases hl
          · rename_i hne
            exact ⟨h.liveLow l e hl, hl, fun b hb1 => apartL hl (by simpa using hne) hb1⟩)
        (fun i c hi => by
          split at hi
          · cases hi
          · rename_i hne
            exact ⟨(h.boxLow i c (bc_some hi).1).1, hi, (h.boxLow i c (bc_some hi).1).2, apartB hi (by simpa using hne)⟩)
    have h2 : HI P E g3 (look (out.eff τ base).add) (bc (look (out.eff τ base).put)) W' := {
      own := fun l e hl => by
        obtain ⟨j, q1, rfl, n1⟩ := hA hl
        rw [sω j n1]; exact r2.own j e q1
      ownNe := fun l e l' e' hl hl' hne b hb1 hb2 => by
        obtain ⟨j, q1, rfl, n1⟩ := hA hl
        obtain ⟨j', q1', rfl, n2⟩ := hA hl'
        rw [sω j n1] at hb1; rw [sω j' n2] at hb2
        exact r2.ownNe j e j' e' q1 q1' (fun q => hne (by rw [q])) b hb1 hb2
      ownMay := fun l e hl b hb1 => by
        obtain ⟨j, q1, rfl, n1⟩ := hA hl
        rw [sω j n1] at hb1
        exact eMay b (r2.ownMay j e q1 b hb1)
      box := fun i c hi => by
        obtain ⟨j, c0, q1, rfl, rfl, n1, m1⟩ := hBc' hi
        obtain ⟨p1, p3⟩ := r2.box j c0 q1
        rw [sρ j n1]
        exact ⟨p1.exp sρ sω rfl m1, p3⟩
      boxNe := fun i i' c c' hi hi' hne hc => by
        obtain ⟨j, c0, q1, rfl, rfl, n1, m1⟩ := hBc' hi
        obtain ⟨j', c0', q1', rfl, rfl, n2, m2⟩ := hBc' hi'
        rw [sρ j n1, sρ j' n2] at hc
        exact r2.boxNe j j' c0 c0' q1 q1' (fun q => hne (by rw [q])) hc
      boxMay := fun i c hi => by
        obtain ⟨j, c0, q1, rfl, rfl, n1, m1⟩ := hBc' hi
        rw [sρ j n1]
        exact eMay _ (r2.boxMay j c0 q1)
      boxOwn := fun i c l e hi hl hc => by
        obtain ⟨j, c0, q1, rfl, rfl, n1, m1⟩ := hBc' hi
        obtain ⟨j', q1', rfl, n2⟩ := hA hl
        rw [sω j' n2, sρ j n1] at hc
        exact r2.boxOwn j c0 j' e q1 q1' hc }
    have newL : ∀ {l : Nat} {e : Ow} {b : Nat}, look (out.eff τ base).add l = some e → (g3.ω l).ownBlock = some b → T b ∨ W.heap.size ≤ b := by
      intro l e b hl hb1
      obtain ⟨j, q1, rfl, n1⟩ := hA hl
      rw [sω j n1] at hb1
      exact r2.ownMay j e q1 b hb1
    have newB : ∀ {i : Nat} {c : List Z1}, bc (look (out.eff τ base).put) i = some c → T (g3.ρ i) ∨ W.heap.size ≤ g3.ρ i := by
      intro i c hi
      obtain ⟨j, c0, q1, rfl, rfl, n1, m1⟩ := hBc' hi
      rw [sρ j n1]
      exact r2.boxMay j c0 q1
    have oldL : ∀ {l : Nat} {e : Ow} {b : Nat}, (if τ.contains l then none else s.live l) = some e → (g3.ω l).ownBlock = some b → ¬ T b ∧ b < W.heap.size := by
      intro l e b hl hb1
      split at hl
      · cases hl
      · rename_i hne
        rw [(hlow (h.liveLow l e hl)).2] at hb1
        exact ⟨apartL hl (by simpa using hne) hb1, (h.h.own l e hl).lt hb1⟩
    have oldB : ∀ {i : Nat} {c : List Z1}, (if τ.contains i then none else bc s.bx i) = some c → ¬ T (g3.ρ i) ∧ g3.ρ i < W.heap.size := by
      intro i c hi
      split at hi
      · cases hi
      · rename_i hne
        rw [(hlow (h.boxLow i c (bc_some hi).1).1).1]
        exact ⟨apartB hi (by simpa using hne), (h.h.box i c hi).1.lt⟩
    have inj : ∀ {j j' : Nat}, j < out.n → j' < out.n → sig τ base j = sig τ base j' → j = j' := by
      intro j j' hj hj' he
      have getE : ∀ {q : Nat}, q < τ.length → τ[q]? = some (sig τ base q) := fun {q} hq => by
        simp only [sig, if_pos hq]
        simp [List.getD, List.getElem?_eq_getElem hq]
      by_cases h1 : j < τ.length
      · by_cases h2 : j' < τ.length
        · exact tInj (getE h1) (by rw [he]; exact getE h2)
        · exfalso
          have e1 := (sigLt j h1).2
          rw [he] at e1
          simp only [sig, if_neg h2] at e1
          exact hb j' hj' e1
      · by_cases h2 : j' < τ.length
        · exfalso
          have e1 := (sigLt j' h2).2
          rw [← he] at e1
          simp only [sig, if_neg h1] at e1
          exact hb j hj e1
        · simp only [sig, if_neg h1, if_neg h2] at he; omega
    have putS : ∀ {i : Nat} {c : List Z1}, s.bx i = some c → i ∈ τ → look (out.eff τ base).put i ≠ none := by
      intro i c hi hit q
      obtain ⟨j, hj⟩ := List.mem_iff_getElem?.1 hit
      have hB := i3 j i (by simpa using hj) (Nat.zero_le _) c hi
      have hjo : (look out.bx j).isSome := by
        cases hBj : look B j with
        | none => rw [hBj] at hB; cases hB
        | some c' => exact o4 _ (look_mem hBj)
      have hs : sig τ base j = i := by simp only [sig, if_pos (hlt hj)]; exact hget hj
      have := look_map_some (σ := sig τ base) (f := fun c : List Z1 => c.map (Z1.exp (sig τ base))) hjo
      rw [hs] at this
      have hq : look (out.bx.map fun p => (sig τ base p.1, p.2.map (Z1.exp (sig τ base)))) i = none := q
      rw [hq] at this
      cases this
    have hRows : HR P g3 ((out.eff τ base).lv s.live) ((out.eff τ base).bv s.bx) W' := by
      intro i T0 xs e hi hl hk2
      simp only [Eff.bv] at hi
      simp only [Eff.lv] at hl
      have usB : ∀ {j : Nat}, j < out.n → ¬ j < τ.length → ¬ s.us (sig τ base j) := fun {j} hj hn hq => by
        simp only [sig, if_neg hn] at hq; exact hb j hj hq
      split at hi
      · rename_i c hput
        cases hi
        obtain ⟨j, c0, q1, q2, q3, q4, q5⟩ := hB' hput
        split at hl
        · rename_i e' hadd
          cases hl
          obtain ⟨j', p1, p2, p3⟩ := hA hadd
          have : j = j' := inj q4 p3 (by rw [q2, p2])
          subst this
          have := rr j T0 xs e (by rw [q1, expL_run q3]) p1 hk2
          rw [← q2, sω j q4]; exact this
        · exfalso
          split at hl
          · cases hl
          · rename_i hne
            have hu := h.liveLow i e hl
            by_cases hjt : j < τ.length
            · exact hne (by have := (sigLt j hjt).1; rw [q2] at this; simpa [Out.eff] using this)
            · exact usB q4 hjt (by rw [q2]; exact hu)
      · rename_i hput
        have hu := (h.boxLow i _ hi).1
        split at hl
        · rename_i e' hadd
          exfalso
          obtain ⟨j', p1, p2, p3⟩ := hA hadd
          by_cases hjt : j' < τ.length
          · exact putS hi (by have := (sigLt j' hjt).1; rw [p2] at this; exact this) hput
          · exact usB p3 hjt (by rw [p2]; exact hu)
        · split at hl
          · cases hl
          · rename_i hne
            rw [(hlow hu).2]
            exact (h.r i T0 xs e hi hl hk2).keep hk (fun b hb1 => hg.block b ((h.h.own i e hl).lt hb1) (apartL hl (by simpa [Out.eff] using hne) hb1))
    refine ⟨g3, h.step hd hm hk (fun i hi => (hlow hi).1) (fun i hi => (hlow hi).2) (h.b.goes hg tMay hk hF)
      (h1.union h2 (fun l e hl => ?_) (fun i c hi => ?_) (fun l e l' e' hl hl' b hb1 hb2 => ?_) (fun i c i' c' hi hi' hc => ?_) (fun i c l e hi hl hc => ?_) (fun i c l e hi hl hc => ?_)) hRows (fun l e hl => ?_) (fun i c hi => ?_)
      (exp_rz sρ sω rfl (Z.low_of o1) r1) (exp_lowz sigB (Z.low_of o1))⟩
    · simp only [Eff.lv] at hl
      split at hl
      · rename_i q; cases hl; exact .inr q
      · exact .inl hl
    · obtain ⟨hi, hnr⟩ := bc_some hi
      simp only [Eff.bv] at hi
      split at hi
      · rename_i q; cases hi; exact .inr (bc_of q hnr)
      · rename_i q
        by_cases hit : i ∈ τ
        · exact absurd q (putS hi hit)
        · exact .inl (by simp [hit, bc_of hi hnr])
    · obtain ⟨p1, p2⟩ := oldL hl hb1
      rcases newL hl' hb2 with q | q
      · exact p1 q
      · omega
    · obtain ⟨p1, p2⟩ := oldB hi
      rcases newB hi' with q | q
      · exact p1 (hc ▸ q)
      · omega
    · obtain ⟨p1, p2⟩ := oldB hi
      rcases newL hl hc with q | q
      · exact p1 q
      · omega
    · obtain ⟨p1, p2⟩ := oldL hl hc
      rcases newB hi with q | q
      · exact p1 q
      · omega
    · simp only [Eff.lv] at hl
      split at hl
      · rename_i q
        obtain ⟨j, q1, rfl, n1⟩ := hA q
        exact sigB j n1
      · split at hl
        · cases hl
        · exact hm l (h.liveLow l e hl)
    · simp only [Eff.bv] at hi
      split at hi
      · rename_i q
        cases hi
        obtain ⟨j, c0, q1, rfl, rfl, n1, m1⟩ := hB' q
        refine ⟨sigB j n1, fun z hz => ?_⟩
        obtain ⟨z0, mm, rfl⟩ := List.mem_map.1 hz
        exact exp_low sigB (m1 z0 mm)
      · obtain ⟨q1, q2⟩ := h.boxLow i c hi
        exact ⟨hm i q1, fun z hz => Z1.below_mono hm (q2 z hz)⟩
  rcases run with ⟨q1, q2⟩ | ⟨v, W', q1, q2⟩
  · exact .inl ⟨q1, q2.mono fun e W' ⟨v, e1, hh⟩ => ⟨v, e1, back v W' hh⟩⟩
  · exact .inr ⟨v, W', q1, back v W' q2⟩
end
end Zed
