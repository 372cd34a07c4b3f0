/- ZED, fifteenth text: an operation of a region, done or left out; what it looks at. -/
import Derived.Test.YtakamchmiakicaaDoorZedN
import Derived.OrdersHeld
namespace Zed
open Go
set_option linter.unusedVariables false
set_option linter.unusedSimpArgs false

section
variable {P : Program} {tab : Tab} {E : Ent} {g : G} {s : S} {a : Act} {W : World}

theorem chosen_wp {ch : Option Ch} {st0 st : Stp} (h : chosen ch st0 = some st) (hC : holds st.C) : holds st0.C ∧ st.e = st0.e ∧ (∀ (W : World) (g : G) (v : Value), RZ W g v st0.z → RZ W g v st.z) ∧ ∀ n, st0.z.below n → st.z.below n := by
  unfold chosen at h
  split at h
  · split at h
    · rename_i v _ u hz
      cases h
      cases hc : st0.C with
      | none =>
        have hC' : holds (some (match st0.C with | none => u = v | some c => c ∧ u = v)) := hC
        rw [hc] at hC'
        have e : u = v := hC'
        subst e
        exact ⟨trivial, rfl, fun W g v q => by rw [hz] at q; exact q, fun n q => by rw [hz] at q; exact q⟩
      | some c =>
        have hC' : holds (some (match st0.C with | none => u = v | some c => c ∧ u = v)) := hC
        rw [hc] at hC'
        have e : c ∧ u = v := hC'
        obtain ⟨h1, rfl⟩ := e
        exact ⟨h1, rfl, fun W g v q => by rw [hz] at q; exact q, fun n q => by rw [hz] at q; exact q⟩
    · cases h
  · split at h
    · rename_i o n i _ id off hz
      cases h
      have key : holds st0.C ∧ off = o + i ∧ i < n := by
        cases hc : st0.C with
        | none =>
          have hC' : holds (some (match st0.C with | none => off = o + i ∧ i < n | some c => c ∧ off = o + i ∧ i < n)) := hC
          rw [hc] at hC'
          exact ⟨trivial, hC'⟩
        | some c =>
          have hC' : holds (some (match st0.C with | none => off = o + i ∧ i < n | some c => c ∧ off = o + i ∧ i < n)) := hC
          rw [hc] at hC'
          exact hC'
      obtain ⟨h1, h2, h3⟩ := key
      refine ⟨h1, rfl, fun W g v q => ?_, fun n q => ?_⟩
      · rw [hz] at q
        have q : v = .pointer (some ⟨g.ρ id, off, none⟩) := q
        exact ⟨h3, by rw [q, h2]⟩
      · rw [hz] at q; exact q
    · cases h
  · cases h; exact ⟨hC, rfl, fun _ _ _ q => q, fun _ q => q⟩

/-- The slot told otherwise. -/
theorem AI.rez {dst : Option Nat} {z z' : Z} {e : Eff} {n : Nat → Prop} (h : AI P E g (s.go dst z e n) a W) (h1 : ∀ v, RZ W g v z → RZ W g v z') (h2 : z.below n → z'.below n) : AI P E g (s.go dst z' e n) a W := by
  cases dst with
  | none => exact h
  | some d =>
    have h0 : (s.go (some d) z e n).sl d = some z := setN_same _ _ _
    have hne : ∀ t, t ≠ d → (s.go (some d) z' e n).sl t = (s.go (some d) z e n).sl t := fun t ht => by
      show setN s.sl d _ t = setN s.sl d _ t
      rw [setN_ne _ _ ht, setN_ne _ _ ht]
    exact {
      defers := h.defers, tsz := h.tsz, liveLow := h.liveLow, boxLow := h.boxLow, pkLow := h.pkLow, pin := h.pin, b := h.b, h := h.h, r := h.r
      slots := fun t zt ht => by
        by_cases hd : t = d
        · subst hd
          have ht : setN s.sl t (some z') t = some zt := ht
          rw [setN_same] at ht; cases ht
          obtain ⟨v, q1, q2⟩ := h.slots t z h0
          exact ⟨v, q1, h1 v q2⟩
        · rw [hne t hd] at ht; exact h.slots t zt ht
      low := fun t zt ht => by
        by_cases hd : t = d
        · subst hd
          have ht : setN s.sl t (some z') t = some zt := ht
          rw [setN_same] at ht; cases ht
          exact h2 (h.low t z h0)
        · rw [hne t hd] at ht; exact h.low t zt ht }

def used (us : Nat → Prop) (base n : Nat) : Nat → Prop := fun k => us k ∨ (base ≤ k ∧ k < base + n)

theorem opZ_wp (ht : TabOk P tab) (h : AI P E g s a W) {o : Oper} {st : Stp} {n base : Nat} {ch : Option Ch} (hz : opZ P tab base ch s o.op = some (st, n)) (hC : holds st.C)
    (hd : ∀ d, o.dst = some d → d < E.nt) (hb : ∀ j, j < n → ¬ s.us (base + j)) {Q : Exit → Act → World → Prop} :
    o.wp P a W (fun a' W' => ∃ g', AI P E g' (s.go o.dst st.z st.e (used s.us base n)) a' W') Q := by
  unfold opZ at hz
  split at hz
  · -- a call
    rename_i r hc
    subst hz
    unfold callZ at hc
    split at hc
    · rename_i f args ats ho
      simp only [Option.some.injEq] at hc
      split at hc
      · rename_i τ nk out
        obtain ⟨inn, hin, e⟩ := omap hc
        simp only [Prod.mk.injEq] at e
        obtain ⟨rfl, rfl⟩ := e
        have run := h.call (dst := o.dst) (n' := used s.us base out.n) hin hC hd hb (fun k hk => .inl hk) (fun j hj => .inr ⟨by omega, by omega⟩)
        have hex : (execOp a.eval o).run P W = (callFunc f (args.toList.map a.eval).toArray).run P W := by
          unfold execOp
          simp [ho, resolve, Act.eval, Deferred.ofValue, invoke]
          congr 2
          apply Array.ext <;> simp
        unfold Oper.wp
        rw [hex]
        rcases run with ⟨q1, q2⟩ | ⟨v, W', q1, q2⟩
        · rw [q1]
          refine Calls.mono q2 fun e W' he => ?_
          obtain ⟨v, rfl, hh⟩ := he
          exact hh
        · rw [q1]; exact q2
      · rename_i τ nk out
        obtain ⟨inn, hin, e⟩ := obind hc
        split at e
        · rename_i hil hol
          split at e
          case isFalse => cases e
          simp only [Option.some.injEq, Prod.mk.injEq] at e
          obtain ⟨rfl, rfl⟩ := e
          obtain ⟨hf, hS⟩ := hC
          have run := h.call (dst := o.dst) (n' := used s.us base out.n) hin hf hd hb (fun k hk => .inl hk) (fun j hj => .inr ⟨by omega, by omega⟩)
          have hsame : s.go o.dst (out.val.exp (sig τ base)) (out.eff τ base) (used s.us base out.n) = s.go o.dst (out.val.exp (sig τ base)) Eff.no (used s.us base out.n) := by
            simp only [S.go, S.mk.injEq, true_and, and_true]
            refine ⟨?_, ?_⟩
            · funext l
              simp only [Eff.lv, Out.eff, hol, List.map_nil, look, Eff.no]
              by_cases hl : l ∈ τ
              · have : s.live l = none := by
                  unfold callIn at hin
                  split at hin
                  case h_2 => cases hin
                  rename_i vs L B hvs hLB
                  split at hin
                  case isFalse => cases hin
                  cases hin
                  have hil : L = [] := hil
                  subst hil
                  exact impH_nolive hLB l hl
                simp [hl, this]
              · simp [hl]
            · funext i
              simp only [Eff.bv, Eff.no, look]
              cases hp : look (out.eff τ base).put i with
              | none => rfl
              | some cs => exact (allS_spec hS _ (look_mem hp)).symm
          have hex : (execOp a.eval o).run P W = (callFunc f (args.toList.map a.eval).toArray).run P W := by
            unfold execOp
            simp [ho, resolve, Act.eval, Deferred.ofValue, invoke]
            congr 2
            apply Array.ext <;> simp
          rw [hsame] at run
          unfold Oper.wp
          rw [hex]
          rcases run with ⟨q1, q2⟩ | ⟨v, W', q1, q2⟩
          · rw [q1]
            refine Calls.mono q2 fun e W' he => ?_
            obtain ⟨v, rfl, hh⟩ := he
            exact hh
          · rw [q1]; exact q2
        · cases e
      · cases hc
    · cases hc
  · obtain ⟨st', hz1, e⟩ := omap hz
    simp only [Prod.mk.injEq] at e
    obtain ⟨rfl, rfl⟩ := e
    split at hz1
    · -- a part of a call's values
      rename_i st0 h0
      obtain ⟨c1, c2, c3, c4⟩ := chosen_wp hz1 hC
      rw [c2]
      refine Oper.wp_mono (K := fun a' W' => ∃ g', AI P E g' (s.go o.dst st0.z st0.e (used s.us base 1)) a' W') (fun a' W' ⟨g', q⟩ => ⟨g', q.rez (c3 W' g') (c4 _)⟩) ?_
      unfold extZ at h0
      split at h0
      · rename_i t i heq
        split at h0
        · rename_i vs hs
          obtain ⟨v, hv, rfl⟩ := omap h0
          obtain ⟨u, hu, us, e, hsz, hr⟩ := h.slots t _ hs
          have hlt : i < vs.length := (List.getElem?_eq_some_iff.1 hv).1
          have hus : us[i]? = some us[i] := Array.getElem?_eq_getElem (by omega)
          have hev : a.eval (.tmp t) = .tuple us := by simp [Act.eval, Array.getD_eq_getD_getElem?, hu, e]
          unfold Oper.wp execOp
          simp [heq, hev, Instr.extract, hus]
          exact ⟨g, h.val hd (fun k hk => .inl hk) (hr i _ v hus hv) (h.low t _ hs v (List.mem_of_getElem? hv))⟩
        · cases h0
      · rename_i t heq
        split at h0
        · rename_i vs hs
          cases h0
          obtain ⟨u, hu, hr⟩ := h.slots t _ hs
          have hev : a.eval (.tmp t) = u := by simp [Act.eval, Array.getD_eq_getD_getElem?, hu]
          unfold Oper.wp execOp
          simp [heq, hev]
          exact ⟨g, h.val hd (fun k hk => .inl hk) hr (h.low t _ hs)⟩
        · cases h0
      · cases h0
    · split at hz1
      · rename_i r hr
        obtain ⟨st0, h0, hch⟩ := obind hz1
        obtain ⟨c1, c2, c3, c4⟩ := chosen_wp hch hC
        rw [c2]
        refine Oper.wp_mono (K := fun a' W' => ∃ g', AI P E g' (s.go o.dst st0.z st0.e (used s.us base 1)) a' W') (fun a' W' ⟨g', q⟩ => ⟨g', q.rez (c3 W' g') (c4 _)⟩) ?_
        exact newOp_wp ht h (by rw [hr, h0]) c1 hd (by simpa using hb 0 (by omega)) (fun k hk => .inl hk) (.inr ⟨Nat.le_refl _, by omega⟩)
      · obtain ⟨st0, h0, hch⟩ := obind hz1
        obtain ⟨c1, c2, c3, c4⟩ := chosen_wp hch hC
        rw [c2]
        refine Oper.wp_mono (K := fun a' W' => ∃ g', AI P E g' (s.go o.dst st0.z st0.e (used s.us base 1)) a' W') (fun a' W' ⟨g', q⟩ => ⟨g', q.rez (c3 W' g') (c4 _)⟩) ?_
        exact effOp_wp ht h h0 c1 hd (by simpa using hb 0 (by omega)) (fun k hk => .inl hk) (.inr ⟨Nat.le_refl _, by omega⟩)

def wantZ (ops : Array Oper) (sl : Nat → Option Z) (o : Oper) : Option Bool :=
  match o.guard with
  | none => some true
  | some (j, w) => match (ops[j]?).bind (·.dst) with
    | none => some false
    | some d => match sl d with
      | some (.one (.c (.d (.bool b)))) => some (b == w)
      | some .no => some false
      | _ => none

def stpZ (P : Program) (tab : Tab) (ops : Array Oper) (base : Nat) (ch : Option Ch) (s : S) (o : Oper) : Option (Stp × Nat) :=
  match wantZ ops s.sl o with
  | some true => opZ P tab base ch s o.op
  | some false => some (⟨.no, Eff.no, [], none⟩, 0)
  | none => none

theorem wantZ_wanted {ops : Array Oper} (h : AI P E g s a W) {o : Oper} {b : Bool} (hw : wantZ ops s.sl o = some b) : Region.wanted o (yielded ops a.tmps) = b := by
  unfold wantZ at hw
  unfold Region.wanted
  split at hw
  · rename_i hg; cases hw; simp [hg]
  · rename_i j w hg
    simp only [hg]
    unfold yielded
    split at hw
    · rename_i hd; cases hw; simp [hd]
    · rename_i d hd
      split at hw
      · rename_i b' hs
        cases hw
        obtain ⟨v, hv, hr⟩ := h.slots d _ hs
        have hr' : RD W g.F v (.bool b') := hr
        cases hr'
        simp [hd, hv]
      · rename_i hs
        cases hw
        obtain ⟨v, hv, hr⟩ := h.slots d _ hs
        have hr' : v = undef := hr
        subst hr'
        simp [hd, hv, undef]
      · cases hw

theorem stpZ_wp (ht : TabOk P tab) (h : AI P E g s a W) {ops : Array Oper} {i : Nat} {o : Oper} (hi : ops[i]? = some o) {st : Stp} {n base : Nat} {ch : Option Ch} (hz : stpZ P tab ops base ch s o = some (st, n)) (hC : holds st.C)
    (hd : ∀ d, o.dst = some d → d < E.nt) (hb : ∀ j, j < n → ¬ s.us (base + j)) {Q : Exit → Act → World → Prop} :
    wpOp P ops Q i (fun a' W' => ∃ g', AI P E g' (s.go o.dst st.z st.e (used s.us base n)) a' W') a W := by
  unfold wpOp
  simp only [hi]
  unfold stpZ at hz
  split at hz
  · rename_i hw
    rw [if_pos (wantZ_wanted h hw)]
    exact .inl (opZ_wp ht h hz hC hd hb)
  · rename_i hw
    rw [if_neg (by rw [wantZ_wanted h hw]; simp)]
    cases hz
    exact ⟨g, h.val hd (fun k hk => .inl hk) rfl trivial⟩
  · cases hz
end
end Zed
