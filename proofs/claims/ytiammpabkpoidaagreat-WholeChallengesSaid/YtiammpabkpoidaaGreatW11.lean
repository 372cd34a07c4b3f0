/- Texts ZedP of our own machine for the walk of WholeChallenges, one behind the other. -/
import Derived.Test.YtiammpabkpoidaaGreatW10
namespace Zed
open Go
set_option linter.unusedVariables false
set_option linter.unusedSimpArgs false

section
variable {tab : Tab} {bx bx' : Nat → Option (List Z1)} {ev ev' : Operand → Option V1} {live live' : Nat → Option Ow}

theorem optZ_local {x : Option Operand} (h : ∀ y ∈ x.toArray.toList, ev y = ev' y) : optZ ev x = optZ ev' x := by
  cases x with
  | none => rfl
  | some x => simp only [optZ]; rw [h x (by simp)]

theorem partsZ_local : ∀ {ps : List (Nat × Operand)}, (∀ y ∈ ps.map (·.2), ev y = ev' y) → partsZ ev ps = partsZ ev' ps
  | [], _ => rfl
  | (i, x) :: r, h => by
    simp only [partsZ]
    rw [h x (by simp), partsZ_local (ps := r) (fun y hy => h y (by simp at hy ⊢; exact .inr hy))]

theorem impV_local {τ : List Nat} : ∀ {xs : List Operand}, (∀ y ∈ xs, ev y = ev' y) → impV τ ev xs = impV τ ev' xs
  | [], _ => rfl
  | x :: r, h => by
    simp only [impV]
    rw [h x (by simp), impV_local (xs := r) (fun y hy => h y (List.mem_cons_of_mem _ hy))]

theorem impH_local {τ : List Nat} : ∀ {l : List Nat} {j : Nat}, (∀ k ∈ l, live k = live' k ∧ bx k = bx' k) → impH τ live bx j l = impH τ live' bx' j l
  | [], _, _ => rfl
  | k :: r, j, h => by
    simp only [impH]
    rw [(h k (by simp)).1, (h k (by simp)).2, impH_local (l := r) (fun y hy => h y (List.mem_cons_of_mem _ hy))]

theorem callIn_local {τ : List Nat} {nk : List (Nat × Nat × K)} {xs : List Operand} {ps : List (Nat × Nat)} (h : ∀ y ∈ xs, ev y = ev' y) (hk : ∀ k ∈ τ, live k = live' k ∧ bx k = bx' k) : callIn τ nk live bx ev xs ps = callIn τ nk live' bx' ev' xs ps := by
  unfold callIn
  rw [impV_local h, impH_local hk]

theorem map_local {xs : List Operand} (h : ∀ y ∈ xs, ev y = ev' y) : xs.map ev = xs.map ev' := List.map_congr_left h

theorem valOp_local {op : Op} (h : ∀ x ∈ op.operands.toList, ev x = ev' x) (hk : ∀ k ∈ rdKeys ev op, bx k = bx' k) : valOp tab bx ev op = valOp tab bx' ev' op := by
  have one : ∀ {x : Operand}, x ∈ op.operands.toList → ev x = ev' x := fun {x} hx => h x hx
  cases op <;> simp only [valOp] <;> simp only [Op.operands, List.mem_cons, List.not_mem_nil, or_false, forall_eq_or_imp, forall_eq, List.mem_append] at h
  case move => rw [h]
  case assign => rw [h]
  case pick => rw [h.1, h.2.1, h.2.2]
  case build t ps => rw [partsZ_local (by simpa using h)]
  case load t x =>
    rw [← h]
    simp only [rdKeys] at hk
    cases hx : ev x with
    | none => cases tlook tab t <;> rfl
    | some v =>
      rw [hx] at hk
      cases v with
      | agg cs => cases tlook tab t <;> rfl
      | c z =>
        cases z with
        | ptr id o =>
          have e := hk id (by simp [V1.keys, Z1.keys])
          cases tlook tab t with
          | none => rfl
          | some i => show (bx id).bind _ = (bx' id).bind _; rw [e]
        | _ => cases tlook tab t <;> rfl
  case nilCheck => rw [h]
  case binOp => rw [h.1, h.2]
  case unOp => rw [h]
  case convert => rw [h]
  case slice t x lo hi mx =>
    have h0 : ∀ y, y ∈ (#[x] ++ lo.toArray ++ hi.toArray ++ mx.toArray).toList → ev y = ev' y := by
      intro y hy; exact one (by simpa [Op.operands] using hy)
    rw [h0 x (by simp), optZ_local (x := lo) (fun y hy => h0 y (by simp at hy ⊢; simp [hy])), optZ_local (x := hi) (fun y hy => h0 y (by simp at hy ⊢; simp [hy])), optZ_local (x := mx) (fun y hy => h0 y (by simp at hy ⊢; simp [hy]))]
  case fieldAddr => rw [h]
  case field => rw [h]
  case indexAddr => rw [h.1, h.2]
  case index => rw [h.1, h.2]
  case call c =>
    obtain ⟨callee, args, ats⟩ := c
    have h0 : ∀ b, callee = .builtin b → ∀ y ∈ args.toList, ev y = ev' y := by
      rintro b rfl y hy
      exact one (by simpa [Op.operands, Call.operands] using hy)
    cases callee with
    | value f => rfl
    | invoke r n => rfl
    | builtin b =>
      have h1 := h0 b rfl
      cases b <;> simp only []
      case len =>
        split
        · rename_i x t ts ha hb
          rw [ha] at h1
          rw [h1 x (by simp)]
        · rfl
      case min => rw [map_local h1]
      case max => rw [map_local h1]

theorem effOp_local {base : Nat} {op : Op} {st : Stp} (h : ∀ x ∈ op.operands.toList, ev x = ev' x) (hz : effOp tab base live bx ev op = some st) (hk : ∀ k ∈ st.rd, live k = live' k ∧ bx k = bx' k) :
    effOp tab base live' bx' ev' op = some st := by
  have one : ∀ {x : Operand}, x ∈ op.operands.toList → ev x = ev' x := fun {x} hx => h x hx
  have val : ∀ {rd : List Nat}, (valOp tab bx ev op).map (fun p => (⟨.one p.1, Eff.no, rd, p.2⟩ : Stp)) = some st → (∀ k ∈ rdKeys ev op, k ∈ rd) →
      (valOp tab bx' ev' op).map (fun p => (⟨.one p.1, Eff.no, rd, p.2⟩ : Stp)) = some st := by
    intro rd hv hr
    obtain ⟨p, _, rfl⟩ := omap hv
    rw [← valOp_local (bx := bx) h (fun k hk' => (hk k (hr k hk')).2)]
    exact hv
  cases op <;> simp only [effOp] at hz ⊢ <;> simp only [Op.operands, List.mem_cons, List.not_mem_nil, or_false, forall_eq_or_imp, forall_eq, List.mem_append] at h
  case alloc => exact hz
  case box => rw [← h]; exact hz
  case store t x y =>
    rw [← h.1, ← h.2]
    split at hz
    · rename_i i id o v q1 q2 q3
      obtain ⟨cs, hb, hz⟩ := obind hz
      split at hz
      · rename_i hl
        cases hz
        rw [← (hk id (by simp)).2, hb]
        simp only [Option.bind_some]
        rw [if_pos hl]
      · cases hz
    · cases hz
  case buildSlice t len ps =>
    rw [← partsZ_local (ev := ev) (by simpa using h)]
    exact hz
  case makeSlice t x y =>
    rw [← h.1, ← h.2]
    exact hz
  case convert src dst x =>
    split at hz
    · rename_i e e' q1 q2
      rw [← h]
      split at hz
      · rename_i hs
        rw [if_pos hs]
        split at hz
        · rename_i l sz xs q3 q4
          split at hz
          · rename_i e2 q5
            split at hz
            · rename_i q6
              cases hz
              rw [← (hk l (by simp)).1, q5]
              simp [q6]
            · cases hz
          · cases hz
        · cases hz
      · cases hz
    · exact val hz (by simp [rdKeys])
  case call c =>
    obtain ⟨callee, args, ats⟩ := c
    have h0 : ∀ b, callee = .builtin b → ∀ y ∈ args.toList, ev y = ev' y := by
      rintro b rfl y hy
      exact one (by simpa [Op.operands, Call.operands] using hy)
    cases callee with
    | value f => cases hz
    | invoke r n => cases hz
    | builtin b =>
      have h1 := h0 b rfl
      cases b <;> simp only [] at hz ⊢ <;> (try cases hz; done)
      case len => exact val hz (by simp [rdKeys])
      case min => exact val hz (by simp [rdKeys])
      case max => exact val hz (by simp [rdKeys])
      case append =>
        split at hz
        · rename_i x y t t' ha hb
          rw [ha] at h1
          split at hz
          · rename_i htt
            rw [if_pos htt]
            rw [← h1 x (by simp), ← h1 y (by simp)]
            split at hz
            · rename_i e vx szy ys q1 q2 q3
              split at hz
              · rename_i i q4
                split at hz
                · rename_i l T xs
                  split at hz
                  · rename_i e' k zs q6 q8
                    split at hz
                    · rename_i q7
                      cases hz
                      rw [← (hk l (by simp)).1, q6, q8]
                      exact if_pos q7
                    · cases hz
                  · cases hz
                · exact hz
                · cases hz
              · cases hz
            · cases hz
          · cases hz
        · cases hz
  case load t x => rw [show rdKeys ev' (.load t x) = rdKeys ev (.load t x) from by simp only [rdKeys]; rw [h]]; exact val hz (fun k hk => hk)
  all_goals exact val hz (fun k hk => hk)
end

section
variable {tab : Tab} {bx bx' : Nat → Option (List Z1)} {ev ev' : Operand → Option V1} {live live' : Nat → Option Ow}

theorem rowOp_ev {base : Nat} {mk : Bool} {op : Op} (h : ∀ x ∈ op.operands.toList, ev x = ev' x) : rowOp tab base mk live bx ev op = rowOp tab base mk live bx ev' op := by
  cases op <;> simp only [rowOp] <;> simp only [Op.operands, List.mem_cons, List.not_mem_nil, or_false, forall_eq_or_imp, forall_eq, List.mem_append] at h
  case load => rw [h]
  case store => rw [h.1, h.2]
  case convert => rw [h]
  case indexAddr => rw [h.1, h.2]
  case makeSlice => rw [h.1, h.2]
  case call c =>
    obtain ⟨callee, args, ats⟩ := c
    have h0 : ∀ b, callee = .builtin b → ∀ y ∈ args.toList, ev y = ev' y := by
      rintro b rfl y hy
      exact h y (by simpa [Call.operands] using hy)
    cases callee with
    | value f => rfl
    | invoke r n => rfl
    | builtin b =>
      have h1 := h0 b rfl
      cases b <;> simp only []
      case len =>
        split
        · rename_i x t ts ha hb
          rw [ha] at h1
          rw [h1 x (by simp)]
        · rfl
      case append =>
        split
        · rename_i x y t t' ha hb
          rw [ha] at h1
          rw [h1 x (by simp), h1 y (by simp)]
        · rfl

theorem runAt_local {l : Nat} (h : live l = live' l ∧ bx l = bx' l) : runAt live bx l = runAt live' bx' l := by unfold runAt; rw [h.1, h.2]

theorem rowOp_none {base : Nat} {mk : Bool} {op : Op} (h : rowOp tab base mk live bx ev op = none) : rowOp tab base mk live' bx' ev op = none := by
  unfold rowOp at h ⊢
  split at h <;> (try dsimp only at h ⊢) <;> (repeat' (split at h <;> first | (cases h; done) | skip)) <;> simp_all

set_option maxHeartbeats 1000000 in
theorem rowOp_heap {base : Nat} {mk : Bool} {op : Op} {st : Stp} (h : rowOp tab base mk live bx ev op = some (some st)) (hk : ∀ k ∈ st.rd, live k = live' k ∧ bx k = bx' k) : rowOp tab base mk live' bx' ev op = some (some st) := by
  unfold rowOp at h ⊢
  split at h <;> (try dsimp only at h ⊢)
  · split at h
    · split at h
      · rename_i l T hx
        simp only [Option.some.injEq] at h ⊢
        split at h
        · rename_i e r h1 h2; cases h; rw [← runAt_local (hk l (by simp)), h2, h1]
        · cases h
      · cases h
    · cases h
  · split at h
    · rename_i l T hx
      simp only [Option.some.injEq] at h ⊢
      split at h
      · rename_i e i r h1 h2 h3
        split at h
        · rename_i ei he
          split at h
          · rename_i hc; cases h; rw [← runAt_local (hk l (by simp)), h3, h1, h2]; simp [he, hc]
          · cases h
        · cases h
      · cases h
    · cases h
  · split at h
    · rename_i l T q o hx
      simp only [Option.some.injEq] at h ⊢
      split at h
      · rename_i i r h1 h2
        split at h
        · rename_i hc
          obtain ⟨v, hv, rfl⟩ := omap h
          rw [← runAt_local (hk l (by simp)), h2, h1]; simp only; rw [if_pos hc, hv]; rfl
        · cases h
      · cases h
    · rename_i id o n q hx
      simp only [Option.some.injEq] at h ⊢
      split at h
      · rename_i i cs h1 h2
        split at h
        · rename_i hc
          obtain ⟨v, hv, rfl⟩ := omap h
          rw [← (hk id (by simp)).2, h2, h1]; simp [hc, hv]
        · cases h
      · cases h
    · cases h
  · split at h
    · rename_i l T q o hx
      simp only [Option.some.injEq] at h ⊢
      split at h
      · rename_i i r ds h1 h2 h3
        split at h
        · rename_i hc
          split at h
          · rename_i z hz; cases h; rw [← runAt_local (hk l (by simp)), h2, h1, h3]; simp only; rw [if_pos hc, hz]
          · cases h
        · cases h
      · cases h
    · rename_i id o n q hx
      simp only [Option.some.injEq] at h ⊢
      split at h
      · rename_i i cs x h1 h2 h3
        split at h
        · rename_i hc
          obtain ⟨ds, hds, h⟩ := obind h
          split at h
          · rename_i hp; cases h; rw [← (hk id (by simp)).2, h2, h1, h3]; simp only; rw [if_pos hc, hds, Option.bind_some, if_pos hp]
          · cases h
        · cases h
      · cases h
    · cases h
  · split at h
    · split at h
      · simp only [Option.some.injEq] at h ⊢
        split at h
        · rename_i e vx b h1 h2 h3
          split at h
          · rename_i i hi
            split at h
            · rename_i hs
              split at h
              · rename_i l xs
                split at h
                · rename_i e' k hlv
                  split at h
                  · rename_i he; cases h; rw [if_pos hs, ← (hk l (by simp)).1, hlv]; simp only; rw [if_pos he]
                  · cases h
                · cases h
              · cases h; rw [if_pos hs]
              · cases h
            · cases h
          · cases h
        · cases h
      · split at h
        · rename_i l T hx
          simp only [Option.some.injEq] at h ⊢
          split at h
          · rename_i htt
            rw [if_pos htt]
            split at h
            · rename_i e r T' ys h1 h2 h3
              split at h
              · rename_i i zs h4 h5
                split at h
                · rename_i he; cases h; rw [← runAt_local (hk l (by simp)), h2, h1, h3]; simp only; rw [h4, h5]; simp only; rw [if_pos he]
                · cases h
              · cases h
            · cases h
          · cases h
        · exact h
        · cases h
    · cases h
  · split at h
    · exact h
    · split at h
      · rename_i l T hx
        simp only [Option.some.injEq] at h ⊢
        split at h
        · rename_i e xs h1 h2; cases h; rw [← runAt_local (hk l (by simp)), h2, h1]
        · cases h
      · cases h
    · cases h
  · exact h
  · exact h
  · cases h
end

section
variable {tab : Tab} {bx bx' : Nat → Option (List Z1)} {ev ev' : Operand → Option V1} {live live' : Nat → Option Ow}

theorem mapOp_ev {base : Nat} {op : Op} (h : ∀ x ∈ op.operands.toList, ev x = ev' x) : mapOp tab base bx ev op = mapOp tab base bx ev' op := by
  cases op <;> simp only [mapOp] <;> simp only [Op.operands, List.mem_cons, List.not_mem_nil, or_false, forall_eq_or_imp, forall_eq, List.mem_append] at h
  case lookup t x ix ok => cases ok <;> simp only [h.1, h.2]
  case makeMap t r => cases r <;> rfl
  case mapUpdate => simp only [h.1, h.2.1, h.2.2]
  case call c =>
    obtain ⟨callee, args, ats⟩ := c
    have h0 : ∀ b, callee = .builtin b → ∀ y ∈ args.toList, ev y = ev' y := by
      rintro b rfl y hy
      exact h y (by simpa [Call.operands] using hy)
    cases callee with
    | value f => rfl
    | invoke r n => rfl
    | builtin b =>
      have h1 := h0 b rfl
      cases b <;> simp only []
      case len =>
        split
        · rename_i x t ha hb
          rw [ha] at h1
          rw [h1 x (by simp)]
        · rfl
      case delete =>
        split
        · rename_i x y t t' ha hb
          rw [ha] at h1
          rw [h1 x (by simp), h1 y (by simp)]
        · rfl
theorem mapOp_none {base : Nat} {op : Op} (h : mapOp tab base bx ev op = none) : mapOp tab base bx' ev op = none := by
  unfold mapOp at h ⊢
  split at h <;> (try dsimp only at h ⊢) <;> (repeat' (split at h <;> first | (cases h; done) | skip)) <;> simp_all
theorem mapOf_local {t : TypeId} {m : Nat} (h : bx m = bx' m) : mapOf tab bx t m = mapOf tab bx' t m := by unfold mapOf; rw [h]
theorem mapOp_heap {base : Nat} {op : Op} {st : Stp} (h : mapOp tab base bx ev op = some (some st)) (hk : ∀ k ∈ st.rd, live k = live' k ∧ bx k = bx' k) : mapOp tab base bx' ev op = some (some st) := by
  unfold mapOp at h ⊢
  split at h <;> (try dsimp only at h ⊢)
  · exact h
  · split at h
    · rename_i m hx
      simp only [Option.some.injEq] at h ⊢
      split at h
      · rename_i k k' l k2 i h1 h2
        split at h
        · rename_i hc; cases h; rw [← mapOf_local (hk m (by simp)).2, h1, h2]; simp only; rw [if_pos hc]
        · cases h
      · cases h
    · cases h
  · split at h
    · rename_i m hx
      simp only [Option.some.injEq] at h ⊢
      split at h
      · rename_i k k' l k2 i k3 v h1 h2 h3
        split at h
        · rename_i hc; cases h; rw [← mapOf_local (hk m (by simp)).2, h1, h2, h3]; simp only; rw [if_pos hc]
        · cases h
      · cases h
    · cases h
  · split at h
    · split at h
      · rename_i m hx
        simp only [Option.some.injEq] at h ⊢
        split at h
        · rename_i k k' l k2 i h1 h2
          split at h
          · rename_i hc; cases h; rw [← mapOf_local (hk m (by simp)).2, h1, h2]; simp only; rw [if_pos hc]
          · cases h
        · cases h
      · cases h
    · cases h
  · split at h
    · split at h
      · rename_i m hx
        simp only [Option.some.injEq] at h ⊢
        split at h
        · rename_i k k' l h1; cases h; rw [← mapOf_local (hk m (by simp)).2, h1]
        · cases h
      · cases h
    · cases h
  · cases h
theorem newOp_ev {base : Nat} {mk hm : Bool} {op : Op} (h : ∀ x ∈ op.operands.toList, ev x = ev' x) : newOp tab base mk hm live bx ev op = newOp tab base mk hm live bx ev' op := by
  unfold newOp; rw [hdOp_ev h, mapOp_ev h, rowOp_ev h, mppOp_ev h]
theorem newOp_none {base : Nat} {mk hm : Bool} {op : Op} (h : newOp tab base mk hm live bx ev op = none) : newOp tab base mk hm live' bx' ev op = none := by
  unfold newOp at h ⊢
  split at h
  · cases h
  · rename_i hh
    rw [hdOp_none hh]
    split at h
    · cases h
    · cases h
    · rename_i hm'; rw [mapOp_none hm']; exact rowOp_none h
/-- A map's operation that maps of numbers cannot do, cannot be done with the same map. -/
theorem mapOp_dead {base : Nat} {op : Op} {st : Stp} (h : mapOp tab base bx ev op = some none) (h2 : mppOp tab base bx ev op = some st) (hk : ∀ k ∈ st.rd, bx k = bx' k) : mapOp tab base bx' ev op = some none := by
  have key : ∀ {t : TypeId} {m : Nat}, m ∈ st.rd → mapOf tab bx t m = mapOf tab bx' t m := fun {t m} hm => mapOf_local (hk m hm)
  unfold mppOp at h2
  unfold mapOp at h ⊢
  split at h2 <;> (try dsimp only at h h2 ⊢)
  · exact h
  · split at h2
    · rename_i m k k2 i h3 h4 h5
      split at h2
      · split at h2
        · cases h2
          rw [h3] at h ⊢
          simp only at h ⊢
          rw [← key (by simp)]; exact h
        · cases h2
      · cases h2
    · cases h2
  · split at h2
    · rename_i m k k2 i id h3 h4 h5 h6
      split at h2
      · split at h2
        · cases h2
          rw [h3] at h ⊢
          simp only at h ⊢
          rw [← key (by simp)]; exact h
        · cases h2
      · cases h2
    · cases h2
  · split at h2
    · rename_i x t ha hb
      split at h2
      · rename_i m k h3 h4
        split at h2
        · cases h2
          rw [ha, hb] at h ⊢
          simp only [h3] at h ⊢
          rw [← key (by simp)]; exact h
        · cases h2
      · cases h2
    · cases h2
  · cases h2
theorem newOp_heap {base : Nat} {mk hm : Bool} {op : Op} {st : Stp} (h : newOp tab base mk hm live bx ev op = some (some st)) (hk : ∀ k ∈ st.rd, live k = live' k ∧ bx k = bx' k) : newOp tab base mk hm live' bx' ev op = some (some st) := by
  unfold newOp at h ⊢
  split at h
  · rename_i r hm'; cases h; rw [hdOp_heap hm' hk]
  · rename_i hh
    rw [hdOp_none hh]
    simp only
    split at h
    · rename_i r hm'; cases h; rw [mapOp_heap hm' hk]
    · rename_i hm'
      simp only [Option.some.injEq] at h
      rw [mapOp_dead hm' h (fun k q => (hk k q).2)]
      simp only
      rw [mppOp_heap h (fun k q => (hk k q).2)]
    · rename_i hm'; rw [mapOp_none hm']; exact rowOp_heap h hk
theorem allS_local : ∀ {l : List (Nat × List Z1)}, (∀ p ∈ l, bx p.1 = bx' p.1) → AllS bx l = AllS bx' l
  | [], _ => rfl
  | p :: r, h => by
    simp only [AllS]
    rw [h p (by simp), allS_local (l := r) (fun q hq => h q (List.mem_cons_of_mem _ hq))]
end

theorem chosen_rd {ch : Option Ch} {st0 st : Stp} (h : chosen ch st0 = some st) : st.rd = st0.rd := by
  unfold chosen at h
  split at h
  · split at h
    · cases h; rfl
    · cases h
  · split at h
    · cases h; rfl
    · cases h
  · cases h; rfl

theorem ev_local {s s' : S} {x : Operand} (h : ∀ t, x = .tmp t → s.sl t = s'.sl t) : s.ev x = s'.ev x := by
  cases x with
  | tmp t => simp only [S.ev]; rw [h t rfl]
  | _ => rfl

theorem opZ_local {P : Program} {tab : Tab} {base : Nat} {ch : Option Ch} {s s' : S} {op : Op} {st : Stp} {n : Nat} (h : ∀ t, Operand.tmp t ∈ op.operands.toList → s.sl t = s'.sl t)
    (hz : opZ P tab base ch s op = some (st, n)) (hk : ∀ k ∈ st.rd, s.live k = s'.live k ∧ s.bx k = s'.bx k) : opZ P tab base ch s' op = some (st, n) := by
  have hev : ∀ x ∈ op.operands.toList, s.ev x = s'.ev x := fun x hx => ev_local (fun t e => h t (e ▸ hx))
  unfold opZ at hz ⊢
  cases hc : callZ P base ch s.live s.bx s.ev op with
  | some r =>
    rw [hc] at hz
    simp only at hz
    subst hz
    have hc' : callZ P base ch s'.live s'.bx s'.ev op = some (some (st, n)) := by
      unfold callZ at hc ⊢
      split at hc
      · rename_i fv args ats
        have hfv : s.ev fv = s'.ev fv := hev fv (by simp [Op.operands, Call.operands])
        rw [← hfv]
        split at hc
        case h_2 => cases hc
        rename_i f ps hf
        simp only [Option.some.injEq] at hc ⊢
        split at hc
        · rename_i τ nk out
          obtain ⟨inn, hin, e⟩ := omap hc
          simp only [Prod.mk.injEq] at e
          obtain ⟨rfl, rfl⟩ := e
          rw [← callIn_local (τ := τ) (live := s.live) (bx := s.bx) (ev := s.ev) (fun y hy => hev y (by simp [Op.operands, Call.operands]; exact .inr (by simpa using hy))) hk, hin]
          rfl
        · rename_i τ nk out
          obtain ⟨inn, hin, e⟩ := obind hc
          split at e
          · rename_i hil hol
            split at e
            case isFalse => cases e
            rename_i hall
            simp only [Option.some.injEq, Prod.mk.injEq] at e
            obtain ⟨rfl, rfl⟩ := e
            rw [← callIn_local (τ := τ) (live := s.live) (bx := s.bx) (ev := s.ev) (fun y hy => hev y (by simp [Op.operands, Call.operands]; exact .inr (by simpa using hy))) hk, hin]
            simp only [Option.bind_some, hil, hol]
            rw [if_pos hall]
            have hput : ∀ p ∈ (out.eff τ base).put, s.bx p.1 = s'.bx p.1 := by
              intro p hp
              simp only [Out.eff] at hp
              obtain ⟨q, hq, rfl⟩ := List.mem_map.1 hp
              have hlt : q.1 < τ.length := by have := List.all_eq_true.1 hall q hq; simpa using this
              refine (hk _ ?_).2
              simp only [sig, if_pos hlt]
              rw [List.getD, List.getElem?_eq_getElem hlt]
              exact List.getElem_mem hlt
            rw [allS_local hput]
          · cases e
        · rename_i τ nk out wr
          obtain ⟨inn, hin, e⟩ := omap hc
          simp only [Prod.mk.injEq] at e
          obtain ⟨rfl, rfl⟩ := e
          rw [← callIn_local (τ := τ) (live := s.live) (bx := s.bx) (ev := s.ev) (fun y hy => hev y (by simp [Op.operands, Call.operands]; exact .inr (by simpa using hy))) hk, hin, SameW.local hk]
          rfl
        · cases hc
      · cases hc
    rw [hc']
  | none =>
    rw [hc] at hz
    have hc' : callZ P base ch s'.live s'.bx s'.ev op = none := by
      unfold callZ at hc ⊢
      split at hc
      · rename_i fv args ats
        have hfv : s.ev fv = s'.ev fv := hev fv (by simp [Op.operands, Call.operands])
        rw [← hfv]
        cases hx : s.ev fv with
        | none => rfl
        | some v =>
          rw [hx] at hc
          cases v with
          | agg cs => rfl
          | c z => cases z <;> first | rfl | cases hc
      · rfl
    rw [hc']
    simp only at hz ⊢
    obtain ⟨st', hz1, e⟩ := omap hz
    simp only [Prod.mk.injEq] at e
    obtain ⟨rfl, rfl⟩ := e
    have hext : extZ s'.sl op = extZ s.sl op := by
      unfold extZ
      split
      · rename_i t i'; rw [h t (by simp [Op.operands])]
      · rename_i t; rw [h t (by simp [Op.operands])]
      · rfl
    rw [hext]
    split at hz1
    · rename_i st0 h0; simp [hz1]
    · rename_i h0
      split at hz1
      · rename_i r hr
        obtain ⟨st0, h1, hch⟩ := obind hz1
        subst h1
        have := newOp_heap (live' := s'.live) (bx' := s'.bx) hr (by rw [← chosen_rd hch]; exact hk)
        rw [newOp_ev (ev' := s'.ev) hev] at this
        simp [this, hch]
      · rename_i hr
        have hr' := newOp_none (live' := s'.live) (bx' := s'.bx) hr
        rw [newOp_ev (ev' := s'.ev) hev] at hr'
        obtain ⟨st0, h1, hch⟩ := obind hz1
        have := effOp_local (live' := s'.live) (bx' := s'.bx) (ev' := s'.ev) hev h1 (by rw [← chosen_rd hch]; exact hk)
        simp [this, hch, hr']
end Zed
