/- Texts ZedKh of our own machine for the walk of WholeChallenges, one behind the other. -/
import Derived.Test.YtiammpabkpoidaaGreatW08
namespace Zed
open Go
set_option linter.unusedVariables false
set_option linter.unusedSimpArgs false

noncomputable def hdOp (tab : Tab) (base : Nat) (hm : Bool) (live : Nat → Option Ow) (bx : Nat → Option (List Z1)) (ev : Operand → Option V1) (op : Op) : Option (Option Stp) :=
  match hdMake tab base hm ev op with
  | some r => some r
  | none => match hdVal tab bx ev op with
    | some r => some r
    | none => match hdSet tab base live bx ev op with
      | some r => some r
      | none => itOp tab base bx ev op
/-- Maps, rows that may be written, headers, and the rest of what is told here. -/
noncomputable def newOp (tab : Tab) (base : Nat) (mk hm : Bool) (live : Nat → Option Ow) (bx : Nat → Option (List Z1)) (ev : Operand → Option V1) (op : Op) : Option (Option Stp) :=
  match hdOp tab base hm live bx ev op with
  | some r => some r
  | none => match mapOp tab base bx ev op with
    | some (some st) => some (some st)
    | some none => some (mppOp tab base bx ev op)
    | none => rowOp tab base mk live bx ev op

section
variable {P : Program} {tab : Tab} {E : Ent} {g : G} {s : S} {a : Act} {W W' : World} {F : Nat → Nat → Prop}
theorem hdOp_wp (ht : TabOk P tab) (h : AI P E g s a W) {o : Oper} {st : Stp} {hm : Bool} {base : Nat} {n' : Nat → Prop} (hz : hdOp tab base hm s.live s.bx s.ev o.op = some (some st)) (hC : holds st.C)
    (hd : ∀ d, o.dst = some d → d < E.nt) (hb : ¬ s.us base) (hmn : ∀ k, s.us k → n' k) (hn : n' base) {Q : Exit → Act → World → Prop} :
    o.wp P a W (fun a' W' => ∃ g', AI P E g' (s.go o.dst st.z st.e n') a' W') Q := by
  unfold hdOp at hz
  split at hz
  · rename_i r hr; cases hz; exact hdMake_wp ht h hr hC hd hb hmn hn
  · split at hz
    · rename_i r hr; cases hz; exact hdVal_wp ht h hr hC hd hmn
    · split at hz
      · rename_i r hr; cases hz; exact hdSet_wp ht h hr hC hd hb hmn hn
      · exact itOp_wp ht h hz hC hd hb hmn hn
theorem newOp_wp (ht : TabOk P tab) (h : AI P E g s a W) {o : Oper} {st : Stp} {mk hm : Bool} {base : Nat} {n' : Nat → Prop} (hz : newOp tab base mk hm s.live s.bx s.ev o.op = some (some st)) (hC : holds st.C)
    (hd : ∀ d, o.dst = some d → d < E.nt) (hb : ¬ s.us base) (hmn : ∀ k, s.us k → n' k) (hn : n' base) {Q : Exit → Act → World → Prop} :
    o.wp P a W (fun a' W' => ∃ g', AI P E g' (s.go o.dst st.z st.e n') a' W') Q := by
  unfold newOp at hz
  split at hz
  · rename_i r hr; cases hz; exact hdOp_wp ht h hr hC hd hb hmn hn
  · split at hz
    · rename_i st' hr; cases hz; exact mapOp_wp ht h hr hC hd hb hmn hn
    · simp only [Option.some.injEq] at hz; exact mppOp_wp ht h hz hC hd hb hmn hn
    · exact rowOp_wp ht h hz hC hd hb hmn hn
end

/-! What they look at. -/
section
variable {tab : Tab} {bx bx' : Nat → Option (List Z1)} {ev ev' : Operand → Option V1} {live live' : Nat → Option Ow}

theorem ptrsZ_local : ∀ {xs : List Operand}, (∀ y ∈ xs, ev y = ev' y) → ptrsZ ev xs = ptrsZ ev' xs
  | [], _ => rfl
  | x :: r, h => by simp only [ptrsZ]; rw [h x (by simp), ptrsZ_local (xs := r) (fun y hy => h y (List.mem_cons_of_mem _ hy))]
theorem partsZ_local' : ∀ {ps : List (Nat × Operand)}, (∀ y ∈ ps.map (·.2), ev y = ev' y) → partsZ ev ps = partsZ ev' ps
  | [], _ => rfl
  | (i, x) :: r, h => by
    simp only [partsZ]
    rw [h x (by simp), partsZ_local' (ps := r) (fun y hy => h y (by simp at hy ⊢; exact .inr hy))]
theorem optZ_local' {x : Option Operand} (h : ∀ y ∈ x.toArray.toList, ev y = ev' y) : optZ ev x = optZ ev' x := by
  cases x with
  | none => rfl
  | some x => simp only [optZ]; rw [h x (by simp)]

theorem hdMake_ev {base : Nat} {hm : Bool} {op : Op} (h : ∀ x ∈ op.operands.toList, ev x = ev' x) : hdMake tab base hm ev op = hdMake tab base hm ev' op := by
  cases op <;> simp only [hdMake] <;> simp only [Op.operands, List.mem_cons, List.not_mem_nil, or_false, forall_eq_or_imp, forall_eq, List.mem_append] at h
  case makeFunc fn first caps =>
    cases fn <;> simp only []
    split
    · rw [ptrsZ_local (fun y hy => h y (by simp; exact .inr (by simpa using hy)))]
    · rfl
  case buildSlice t len ps => rw [partsZ_local' (ev := ev) (by simpa using h)]
  case makeSlice => rw [h.1, h.2]
theorem hdVal_ev {op : Op} (h : ∀ x ∈ op.operands.toList, ev x = ev' x) : hdVal tab bx ev op = hdVal tab bx ev' op := by
  have one : ∀ {x : Operand}, x ∈ op.operands.toList → ev x = ev' x := fun {x} hx => h x hx
  cases op <;> simp only [hdVal] <;> simp only [Op.operands, List.mem_cons, List.not_mem_nil, or_false, forall_eq_or_imp, forall_eq, List.mem_append] at h
  case indexAddr => rw [h.1, h.2]
  case slice t x lo hi mx =>
    have h0 : ∀ y, y ∈ (#[x] ++ lo.toArray ++ hi.toArray ++ mx.toArray).toList → ev y = ev' y := by
      intro y hy; exact one (by simpa [Op.operands] using hy)
    simp only [cutN]
    rw [h0 x (by simp), optZ_local' (x := lo) (fun y hy => h0 y (by simp at hy ⊢; simp [hy])), optZ_local' (x := hi) (fun y hy => h0 y (by simp at hy ⊢; simp [hy])), optZ_local' (x := mx) (fun y hy => h0 y (by simp at hy ⊢; simp [hy]))]
  case binOp => rw [h.1, h.2]
  case nilCheck => rw [h]
  case call c =>
    obtain ⟨callee, args, ats⟩ := c
    have h0 : ∀ b, callee = .builtin b → ∀ y ∈ args.toList, ev y = ev' y := by
      rintro b rfl y hy
      exact one (by simpa [Op.operands, Call.operands] using hy)
    cases callee with
    | value f => rfl
    | invoke r n => rfl
    | builtin b =>
      have h1 := h0 b rfl
      cases b <;> simp only []
      case len =>
        split
        · rename_i x t ha hb
          rw [ha] at h1
          rw [h1 x (by simp)]
        · rfl
      case min => rw [List.map_congr_left h1]
      case max => rw [List.map_congr_left h1]
theorem hdSet_ev {base : Nat} {op : Op} (h : ∀ x ∈ op.operands.toList, ev x = ev' x) : hdSet tab base live bx ev op = hdSet tab base live bx ev' op := by
  cases op <;> simp only [hdSet] <;> simp only [Op.operands, List.mem_cons, List.not_mem_nil, or_false, forall_eq_or_imp, forall_eq, List.mem_append] at h
  case call c =>
    obtain ⟨callee, args, ats⟩ := c
    have h0 : ∀ b, callee = .builtin b → ∀ y ∈ args.toList, ev y = ev' y := by
      rintro b rfl y hy
      exact h y (by simpa [Call.operands] using hy)
    cases callee with
    | value f => rfl
    | invoke r n => rfl
    | builtin b =>
      have h1 := h0 b rfl
      cases b <;> simp only []
      case append =>
        split
        · rename_i x y t t' ha hb
          rw [ha] at h1
          rw [h1 x (by simp), h1 y (by simp)]
        · rfl
      case copy =>
        split
        · rename_i x y t t' ha hb
          rw [ha] at h1
          rw [h1 x (by simp), h1 y (by simp)]
        · rfl
      case clear =>
        split
        · rename_i x t ha hb
          rw [ha] at h1
          rw [h1 x (by simp)]
        · rfl
theorem itOp_ev {base : Nat} {op : Op} (h : ∀ x ∈ op.operands.toList, ev x = ev' x) : itOp tab base bx ev op = itOp tab base bx ev' op := by
  cases op <;> simp only [itOp] <;> simp only [Op.operands, List.mem_cons, List.not_mem_nil, or_false, forall_eq_or_imp, forall_eq, List.mem_append] at h
  case range => rw [h]
  case next it b => cases b <;> simp only [h]
  case entry => rw [h]
theorem mppOp_ev {base : Nat} {op : Op} (h : ∀ x ∈ op.operands.toList, ev x = ev' x) : mppOp tab base bx ev op = mppOp tab base bx ev' op := by
  cases op <;> simp only [mppOp] <;> simp only [Op.operands, List.mem_cons, List.not_mem_nil, or_false, forall_eq_or_imp, forall_eq, List.mem_append] at h
  case lookup t x ix ok => cases ok <;> simp only [h.1, h.2]
  case makeMap t r => cases r <;> rfl
  case mapUpdate => simp only [h.1, h.2.1, h.2.2]
  case call c =>
    obtain ⟨callee, args, ats⟩ := c
    have h0 : ∀ b, callee = .builtin b → ∀ y ∈ args.toList, ev y = ev' y := by
      rintro b rfl y hy
      exact h y (by simpa [Call.operands] using hy)
    cases callee with
    | value f => rfl
    | invoke r n => rfl
    | builtin b =>
      have h1 := h0 b rfl
      cases b <;> simp only []
      case len =>
        split
        · rename_i x t ha hb
          rw [ha] at h1
          rw [h1 x (by simp)]
        · rfl
theorem hdOp_ev {base : Nat} {hm : Bool} {op : Op} (h : ∀ x ∈ op.operands.toList, ev x = ev' x) : hdOp tab base hm live bx ev op = hdOp tab base hm live bx ev' op := by
  unfold hdOp; rw [hdMake_ev h, hdVal_ev h, hdSet_ev h, itOp_ev h]

theorem hdVal_none {op : Op} (h : hdVal tab bx ev op = none) : hdVal tab bx' ev op = none := by
  unfold hdVal at h ⊢
  split at h <;> (try dsimp only at h ⊢) <;> (repeat' (split at h <;> first | (cases h; done) | skip)) <;> simp_all
theorem hdSet_none {base : Nat} {op : Op} (h : hdSet tab base live bx ev op = none) : hdSet tab base live' bx' ev op = none := by
  unfold hdSet at h ⊢
  split at h <;> (try dsimp only at h ⊢) <;> (repeat' (split at h <;> first | (cases h; done) | skip)) <;> simp_all
theorem itOp_none {base : Nat} {op : Op} (h : itOp tab base bx ev op = none) : itOp tab base bx' ev op = none := by
  unfold itOp at h ⊢
  split at h <;> (try dsimp only at h ⊢) <;> (repeat' (split at h <;> first | (cases h; done) | skip)) <;> simp_all
theorem hdOp_none {base : Nat} {hm : Bool} {op : Op} (h : hdOp tab base hm live bx ev op = none) : hdOp tab base hm live' bx' ev op = none := by
  unfold hdOp at h ⊢
  split at h
  · cases h
  · rename_i h1
    split at h
    · cases h
    · rename_i h2
      split at h
      · cases h
      · rename_i h3
        rw [hdVal_none h2, hdSet_none h3]; exact itOp_none h

theorem srcZ_local {z : V1} {zs : List Z1} {rd : List Nat} (h : srcZ bx z = some (zs, rd)) (hk : ∀ k ∈ rd, bx k = bx' k) : srcZ bx' z = some (zs, rd) := by
  unfold srcZ at h ⊢
  split at h
  · obtain ⟨cs, hcs, h⟩ := obind h
    split at h
    · rename_i hc; cases h; rw [← hk _ (by simp), hcs]; exact if_pos hc
    · cases h
  · exact h
  · exact h
  · exact h
  · exact h
  · cases h
theorem hdVal_heap {op : Op} {st : Stp} (h : hdVal tab bx ev op = some (some st)) (hk : ∀ k ∈ st.rd, bx k = bx' k) : hdVal tab bx' ev op = some (some st) := by
  unfold hdVal at h ⊢
  split at h <;> (try dsimp only at h ⊢)
  · exact h
  · exact h
  · split at h
    · simp only [Option.some.injEq] at h ⊢
      split at h
      · split at h
        · rename_i m ci cj h1 h2 h3
          split at h
          · rename_i hc
            obtain ⟨p, hp, rfl⟩ := omap h
            rw [h1, ← hk _ (by simp), h2, ← hk _ (by simp), h3]
            simp only; rw [if_pos hc]
            unfold ofP; rw [hp]; rfl
          · cases h
        · cases h
      · cases h
    · exact h
    · exact h
    · exact h
    · exact h
    · exact h
  · exact h
  · exact h
  · exact h
  · exact h
  · exact h
set_option maxHeartbeats 1000000 in
theorem hdSet_heap {base : Nat} {op : Op} {st : Stp} (h : hdSet tab base live bx ev op = some (some st)) (hk : ∀ k ∈ st.rd, live k = live' k ∧ bx k = bx' k) : hdSet tab base live' bx' ev op = some (some st) := by
  unfold hdSet at h ⊢
  split at h <;> (try dsimp only at h ⊢)
  · -- copy
    split at h
    · split at h
      · simp only [Option.some.injEq] at h ⊢
        split at h
        · rename_i e cs ys rd h1 h2 h3
          split at h
          · rename_i hz1
            split at h
            · rename_i hc
              cases h
              obtain ⟨zy, hy, hs⟩ := obind h3
              rw [h1, ← (hk _ (by simp)).2, h2, hy, Option.bind_some, srcZ_local hs (fun k q => (hk k (by simp [q])).2)]
              simp only; rw [hz1]; simp only; rw [if_pos hc]
            · cases h
          · cases h
        · cases h
      · simp only [Option.some.injEq] at h ⊢
        split at h
        · rename_i e zs rd h1 h3
          obtain ⟨q, hq, rfl⟩ := omap h
          obtain ⟨zy, hy, hs⟩ := obind h3
          rw [h1, hy, Option.bind_some, srcZ_local hs (fun k q => (hk k q).2)]
          simp only; rw [hq]; rfl
        · cases h
      · cases h
    · cases h
  · -- clear
    split at h
    · split at h
      · simp only [Option.some.injEq] at h ⊢
        split at h
        · rename_i e cs h1 h2
          split at h
          · rename_i z b hz1
            split at h
            · rename_i hc
              cases h
              rw [h1, ← (hk _ (by simp)).2, h2]
              simp only; rw [hz1]; simp only; rw [if_pos hc]
            · cases h
          · cases h
        · cases h
      · exact h
      · cases h
    · cases h
  · -- append
    split at h
    · split at h
      · simp only [Option.some.injEq] at h ⊢
        split at h
        case isFalse => cases h
        rename_i htt
        rw [if_pos htt]
        split at h
        · rename_i e cs ys rd h1 h2 h3
          split at h
          · rename_i hz1
            split at h
            · rename_i hc
              cases h
              obtain ⟨zy, hy, hs⟩ := obind h3
              rw [h1, ← (hk _ (by simp)).2, h2, hy, Option.bind_some, srcZ_local hs (fun k q => (hk k (by simp [q])).2)]
              simp only; rw [hz1]; simp only; rw [if_pos hc]
            · cases h
          · cases h
        · cases h
      · split at h
        · simp only [Option.some.injEq] at h ⊢
          split at h
          case isFalse => cases h
          rename_i htt
          rw [if_pos htt]
          split at h
          · rename_i e zs rd e' k h1 h2 h3
            split at h
            · rename_i i ys h4 h5
              split at h
              · rename_i hc
                cases h
                rw [h1, srcZ_local h2 (fun k q => (hk k (by simp [q])).2), ← (hk _ (by simp)).1, h3]
                simp only; rw [h4, h5]; simp only; rw [if_pos hc]
              · cases h
            · rename_i h4 h5
              split at h
              · rename_i b h6 h7
                split at h
                · rename_i hc
                  cases h
                  rw [h1, srcZ_local h2 (fun k q => (hk k (by simp [q])).2), ← (hk _ (by simp)).1, h3]
                  simp only; rw [h4, h5]; simp only; rw [h6]; simp only; rw [if_pos hc]
                · cases h
              · cases h
            · cases h
          · cases h
        · cases h
      · split at h
        · simp only [Option.some.injEq] at h ⊢
          split at h
          case isFalse => cases h
          rename_i htt
          rw [if_pos htt]
          split at h
          · rename_i e ys rd h1 h2
            split at h
            · rename_i z b h4
              split at h
              · rename_i hc
                cases h
                rw [h1, srcZ_local h2 (fun k q => (hk k q).2)]
                simp only; rw [h4]; simp only; rw [if_pos hc]
              · cases h
            · cases h
          · cases h
        · cases h
      · cases h
    · cases h
  · cases h
theorem mppB_local {m : Nat} (h : bx m = bx' m) : mppB bx m = mppB bx' m := by unfold mppB; rw [h]
theorem itOp_heap {base : Nat} {op : Op} {st : Stp} (h : itOp tab base bx ev op = some (some st)) (hk : ∀ k ∈ st.rd, bx k = bx' k) : itOp tab base bx' ev op = some (some st) := by
  unfold itOp at h ⊢
  split at h <;> (try dsimp only at h ⊢)
  · split at h
    · simp only [Option.some.injEq] at h ⊢
      split at h
      · rename_i k k3 l cl h1 h2; cases h; rw [h1, ← mppB_local (hk _ (by simp)), h2]
      · cases h
    · cases h
  · split at h
    · simp only [Option.some.injEq] at h ⊢
      split at h
      · rename_i m since seen last h1
        split at h
        · rename_i k l cl h2
          split at h
          · rename_i h3; cases h; rw [← hk _ (by simp), h1]; simp only; rw [← mppB_local (hk m (by simp)), h2]; simp only; rw [h3]
          · rename_i p h3; cases h; rw [← hk _ (by simp), h1]; simp only; rw [← mppB_local (hk m (by simp)), h2]; simp only; rw [h3]
          · cases h
        · cases h
      · cases h
    · cases h
  · split at h
    · simp only [Option.some.injEq] at h ⊢
      split at h
      · rename_i m since seen last h1
        split at h
        · rename_i k l cl h2
          split at h
          · rename_i b h3
            split at h
            · rename_i p h4
              split at h
              · rename_i hc; cases h; rw [← hk _ (by simp), h1]; simp only; rw [← mppB_local (hk m (by simp)), h2]; simp only; rw [h3]; simp only; rw [h4]; simp only; rw [if_pos hc]
              · cases h
            · cases h
          · cases h
        · cases h
      · cases h
    · cases h
  · cases h
theorem mppOp_heap {base : Nat} {op : Op} {st : Stp} (h : mppOp tab base bx ev op = some st) (hk : ∀ k ∈ st.rd, bx k = bx' k) : mppOp tab base bx' ev op = some st := by
  unfold mppOp at h ⊢
  split at h <;> (try dsimp only at h ⊢)
  · exact h
  · split at h
    · rename_i m k k2 i h1 h2 h3
      split at h
      · rename_i k3 l cl h4
        split at h
        · rename_i hc; cases h; rw [← mppB_local (hk m (by simp)), h4]; simp only; rw [if_pos hc]
        · cases h
      · cases h
    · cases h
  · split at h
    · rename_i m k k2 i id h1 h2 h3 h5
      split at h
      · rename_i k3 l cl h4
        split at h
        · rename_i hc; cases h; rw [← mppB_local (hk m (by simp)), h4]; simp only; rw [if_pos hc]
        · cases h
      · cases h
    · cases h
  · split at h
    · split at h
      · rename_i m k h1 h2
        split at h
        · rename_i k3 l cl h4; cases h; rw [← mppB_local (hk m (by simp)), h4]
        · cases h
      · cases h
    · cases h
  · cases h
theorem hdOp_heap {base : Nat} {hm : Bool} {op : Op} {st : Stp} (h : hdOp tab base hm live bx ev op = some (some st)) (hk : ∀ k ∈ st.rd, live k = live' k ∧ bx k = bx' k) : hdOp tab base hm live' bx' ev op = some (some st) := by
  unfold hdOp at h ⊢
  split at h
  · exact h
  · split at h
    · rename_i h1 r h2; cases h; rw [hdVal_heap h2 (fun k q => (hk k q).2)]
    · rename_i h1 h2
      rw [hdVal_none h2]
      split at h
      · rename_i r h3; cases h; rw [hdSet_heap h3 hk]
      · rename_i h3; rw [hdSet_none h3]; exact itOp_heap h (fun k q => (hk k q).2)
end
end Zed
