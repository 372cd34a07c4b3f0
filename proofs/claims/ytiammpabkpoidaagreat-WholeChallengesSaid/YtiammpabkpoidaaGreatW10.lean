/- Texts ZedL, ZedM, ZedN, ZedO of our own machine for the walk of WholeChallenges, one behind the other. -/
import Derived.OrdersHeld
import Derived.Test.YtiammpabkpoidaaGreatW09
namespace Zed
open Go
set_option linter.unusedVariables false
set_option linter.unusedSimpArgs false

/-- What a function is handed: values, rows of its own, variables; numbers below n. -/
structure Inn where
  args : List V1
  live : List (Nat × Ow)
  bx : List (Nat × List Z1)
  n : Nat
/-- What it leaves. -/
structure Out where
  val : Z
  live : List (Nat × Ow)
  bx : List (Nat × List Z1)
  n : Nat

noncomputable def Z1.lowB (n : Nat) : Z1 → Bool
  | .own l _ _ => l.blt n
  | .ptr id _ => id.blt n
  | .pix id _ _ _ => id.blt n
  | .row l _ => l.blt n
  | .pel l _ _ _ => l.blt n
  | .mref id => id.blt n
  | .hd id _ _ _ => id.blt n
  | .mpp _ l _ => l.all fun p => p.2.1.blt n
  | .fn _ ps => ps.all fun p => p.1.blt n
  | .itr m _ _ _ => m.blt n
  | _ => true
noncomputable def V1.lowB (n : Nat) : V1 → Bool
  | .c z => z.lowB n
  | .agg cs => cs.all (Z1.lowB n)
noncomputable def Z.lowB (n : Nat) : Z → Bool
  | .one v => v.lowB n
  | .tup vs => vs.all (V1.lowB n)
  | .no => true
theorem Z1.low_of {n : Nat} {z : Z1} (h : z.lowB n = true) : z.below (· < n) := by
  cases z with
  | mpp k l c => exact fun p hp => by have := List.all_eq_true.1 h p hp; simpa using this
  | fn f ps => exact fun p hp => by have := List.all_eq_true.1 h p hp; simpa using this
  | _ => simp_all [Z1.lowB, Z1.below]
theorem V1.low_of {n : Nat} {z : V1} (h : z.lowB n = true) : z.below (· < n) := by
  cases z with
  | c z => exact Z1.low_of h
  | agg cs => intro c hc; exact Z1.low_of (List.all_eq_true.1 h c hc)
theorem Z.low_of {n : Nat} {z : Z} (h : z.lowB n = true) : z.below (· < n) := by
  cases z with
  | one v => exact V1.low_of h
  | tup vs => intro c hc; exact V1.low_of (List.all_eq_true.1 h c hc)
  | no => trivial

noncomputable def Out.ok (i : Inn) (o : Out) : Bool :=
  o.val.lowB o.n && o.live.all (fun p => p.1.blt o.n) && o.bx.all (fun p => p.1.blt o.n && p.2.all (Z1.lowB o.n)) && i.bx.all (fun p => (look o.bx p.1).isSome) && i.n.ble o.n
noncomputable def Inn.ok (i : Inn) : Bool :=
  i.args.all (V1.lowB i.n) && i.live.all (fun p => p.1.blt i.n) && i.bx.all (fun p => p.1.blt i.n && p.2.all (Z1.lowB i.n))

theorem look_mem {α : Type} : ∀ {l : List (Nat × α)} {k : Nat} {x : α}, look l k = some x → (k, x) ∈ l
  | [], _, _, h => by cases h
  | (i, y) :: l, k, x, h => by
    simp only [look] at h
    split at h
    · rename_i hk; subst hk; cases h; exact List.mem_cons_self
    · exact List.mem_cons_of_mem _ (look_mem h)

/-- A function is called (one of the library's own may answer at once). -/
noncomputable def Invoked (P : Program) (f : FuncId) (args : Array Value) (W : World) (R : Value → World → Prop) : Prop :=
  ((callFunc f args).run P W = .ok (.enter f args) W ∧ Calls P f args W fun e W' => ∃ v, e = .returned v ∧ R v W') ∨ ∃ v W', (callFunc f args).run P W = .ok (.value v) W' ∧ R v W'

/-- What a call of 'f' does, in numbers of its own. -/
noncomputable def FnOK (P : Program) (f : FuncId) (i : Inn) (o : Out) : Prop :=
  o.ok i = true ∧ ∀ (E : Ent) (g : G) (W : World) (args : Array Value), args.size = i.args.length → (∀ (j : Nat) (v : Value) (z : V1), args[j]? = some v → i.args[j]? = some z → RV W g v z) →
    E.pk = i.n → (∀ j, j < i.n → g.ρ j = E.ρ0 j ∧ g.ω j = E.ω0 j) → E.W0 = W → E.F0 = g.F → HI P E g (look i.live) (bc (look i.bx)) W → HR P g (look i.live) (look i.bx) W → WB E g.F W →
    Invoked P f args W fun v W' => ∃ g', RZ W' g' v o.val ∧ HI P E g' (look o.live) (bc (look o.bx)) W' ∧ HR P g' (look o.live) (look o.bx) W' ∧ WB E g'.F W' ∧ ∀ j, j < i.n → g'.ρ j = g.ρ j ∧ g'.ω j = g.ω j

/-! The caller's numbers, as the callee's. -/
noncomputable def idx : List Nat → Nat → Option Nat
  | [], _ => none
  | k :: r, x => if k = x then some 0 else (idx r x).map (· + 1)
theorem idx_get : ∀ {τ : List Nat} {k j : Nat}, idx τ k = some j → τ[j]? = some k
  | [], _, _, h => by cases h
  | x :: r, k, j, h => by
    simp only [idx] at h
    split at h
    · rename_i hk; subst hk; cases h; rfl
    · obtain ⟨m, h1, rfl⟩ := omap h
      simpa using idx_get h1
theorem idx_none : ∀ {τ : List Nat} {k : Nat}, idx τ k = none → k ∉ τ
  | [], _, _ => by simp
  | x :: r, k, h => by
    simp only [idx] at h
    split at h
    · cases h
    · rename_i hk
      have := idx_none (τ := r) (k := k) (by simpa using h)
      simp [this, Ne.symm hk]

noncomputable def impM (τ : List Nat) : List (Int × Nat × Nat) → Option (List (Int × Nat × Nat))
  | [] => some []
  | p :: r => match idx τ p.2.1, impM τ r with
    | some j, some l => some ((p.1, j, p.2.2) :: l)
    | _, _ => none
noncomputable def impP (τ : List Nat) : List (Nat × Nat) → Option (List (Nat × Nat))
  | [] => some []
  | p :: r => match idx τ p.1, impP τ r with
    | some j, some l => some ((j, p.2) :: l)
    | _, _ => none
noncomputable def Z1.imp (τ : List Nat) : Z1 → Option Z1
  | .d x => some (.d x)
  | .own l sz xs => match idx τ l with
    | some j => some (.own j sz xs)
    | none => some (.d (.sl sz xs))
  | .ptr id off => (idx τ id).map fun j => .ptr j off
  | .el cs => some (.el cs)
  | .nn T xs => some (.nn T xs)
  | .pix id off n i => (idx τ id).map fun j => .pix j off n i
  | .row l T => (idx τ l).map fun j => .row j T
  | .pel l T i off => (idx τ l).map fun j => .pel j T i off
  | .run T xs => some (.run T xs)
  | .mref id => (idx τ id).map fun j => .mref j
  | .mp k k' l => some (.mp k k' l)
  | .hd id off n c => (idx τ id).map fun j => .hd j off n c
  | .mpp k l c => (impM τ l).map fun l' => .mpp k l' c
  | .fn f ps => (impP τ ps).map fun ps' => .fn f ps'
  | .itr m a b c => (idx τ m).map fun j => .itr j a b c
noncomputable def impL (τ : List Nat) : List Z1 → Option (List Z1)
  | [] => some []
  | z :: r => match z.imp τ, impL τ r with
    | some z', some r' => some (z' :: r')
    | _, _ => none
noncomputable def V1.imp (τ : List Nat) : V1 → Option V1
  | .c z => (z.imp τ).map .c
  | .agg cs => (impL τ cs).map .agg
noncomputable def impV (τ : List Nat) (ev : Operand → Option V1) : List Operand → Option (List V1)
  | [] => some []
  | x :: r => match (ev x).bind (V1.imp τ), impV τ ev r with
    | some v, some l => some (v :: l)
    | _, _ => none
noncomputable def impH (τ : List Nat) (live : Nat → Option Ow) (bx : Nat → Option (List Z1)) : Nat → List Nat → Option (List (Nat × Ow) × List (Nat × List Z1))
  | _, [] => some ([], [])
  | j, k :: r => match impH τ live bx (j + 1) r with
    | none => none
    | some (L, B) => match bx k with
      | some cs => (impL τ cs).map fun cs' => (match live k with
        | some e => (j, e) :: L
        | none => L, (j, cs') :: B)
      | none => (live k).map fun e => ((j, e) :: L, B)
noncomputable def nodupB : List Nat → Bool
  | [] => true
  | k :: r => !(r.contains k) && nodupB r
theorem nodup_of : ∀ {l : List Nat}, nodupB l = true → l.Nodup
  | [], _ => List.nodup_nil
  | k :: r, h => by
    simp only [nodupB, Bool.and_eq_true, Bool.not_eq_true', List.contains_eq_mem, decide_eq_false_iff_not] at h
    exact List.nodup_cons.2 ⟨h.1, nodup_of h.2⟩

noncomputable def Z1.exp (σ : Nat → Nat) : Z1 → Z1
  | .d x => .d x
  | .own l sz xs => .own (σ l) sz xs
  | .ptr id off => .ptr (σ id) off
  | .el cs => .el cs
  | .nn T xs => .nn T xs
  | .pix id off n i => .pix (σ id) off n i
  | .row l T => .row (σ l) T
  | .pel l T i off => .pel (σ l) T i off
  | .run T xs => .run T xs
  | .mref id => .mref (σ id)
  | .mp k k' l => .mp k k' l
  | .hd id off n c => .hd (σ id) off n c
  | .mpp k l c => .mpp k (l.map fun p => (p.1, σ p.2.1, p.2.2)) c
  | .fn f ps => .fn f (ps.map fun p => (σ p.1, p.2))
  | .itr m a b c => .itr (σ m) a b c
noncomputable def V1.exp (σ : Nat → Nat) : V1 → V1
  | .c z => .c (z.exp σ)
  | .agg cs => .agg (cs.map (Z1.exp σ))
noncomputable def Z.exp (σ : Nat → Nat) : Z → Z
  | .one v => .one (v.exp σ)
  | .tup vs => .tup (vs.map (V1.exp σ))
  | .no => .no

/-- The callee's numbers, as the caller's. -/
noncomputable def sig (τ : List Nat) (base : Nat) (j : Nat) : Nat := if j < τ.length then τ.getD j 0 else base + j

/-- Nil, handed on as a row of a kind. -/
noncomputable def castZ (T : K) : Z1 → Z1
  | .d (.sl .unit _) => .d (.sl T [])
  | z => z
noncomputable def castV (j : Nat) (T : K) : V1 → V1
  | .c z => .c (castZ T z)
  | .agg cs => .agg (cs.modify j (castZ T))
noncomputable def castNil : List (Nat × Nat × K) → List V1 → List V1
  | [], l => l
  | (i, j, T) :: r, l => castNil r (l.modify i (castV j T))

noncomputable def callIn (τ : List Nat) (nk : List (Nat × Nat × K)) (live : Nat → Option Ow) (bx : Nat → Option (List Z1)) (ev : Operand → Option V1) (args : List Operand) (ps : List (Nat × Nat)) : Option Inn :=
  match impV τ ev args, impP τ ps, impH τ live bx 0 τ with
  | some vs, some qs, some (L, B) => if nodupB τ then some ⟨castNil nk (vs ++ qs.map fun p => .c (.ptr p.1 p.2)), L, B, τ.length⟩ else none
  | _, _, _ => none

section
variable {P : Program} {E : Ent} {g : G} {s : S} {a : Act} {W W' : World}

/-- The caller's places, by the callee's numbers. -/
noncomputable def G.via (g : G) (τ : List Nat) : G := ⟨g.F, fun j => g.ρ (τ.getD j 0), fun j => g.ω (τ.getD j 0)⟩

theorem getD_of {τ : List Nat} {j k : Nat} (h : τ[j]? = some k) : τ.getD j 0 = k := by simp [List.getD, h]

theorem impM_map {τ : List Nat} : ∀ {l l' : List (Int × Nat × Nat)}, impM τ l = some l' → (∀ p ∈ l', p.2.1 < τ.length) ∧ l'.map (fun p => (p.1, τ.getD p.2.1 0, p.2.2)) = l
  | [], l', h => by cases h; simp
  | p :: r, l', h => by
    unfold impM at h
    split at h
    · rename_i j l h1 h2
      cases h
      obtain ⟨q1, q2⟩ := impM_map h2
      have hj := idx_get h1
      refine ⟨fun u hu => ?_, ?_⟩
      · rcases List.mem_cons.1 hu with rfl | hu
        · exact (List.getElem?_eq_some_iff.1 hj).1
        · exact q1 u hu
      · rw [List.map_cons, q2, getD_of hj]
    · cases h
theorem impP_map {τ : List Nat} : ∀ {l l' : List (Nat × Nat)}, impP τ l = some l' → (∀ p ∈ l', p.1 < τ.length) ∧ l'.map (fun p => (τ.getD p.1 0, p.2)) = l
  | [], l', h => by cases h; simp
  | p :: r, l', h => by
    unfold impP at h
    split at h
    · rename_i j l h1 h2
      cases h
      obtain ⟨q1, q2⟩ := impP_map h2
      have hj := idx_get h1
      refine ⟨fun u hu => ?_, ?_⟩
      · rcases List.mem_cons.1 hu with rfl | hu
        · exact (List.getElem?_eq_some_iff.1 hj).1
        · exact q1 u hu
      · rw [List.map_cons, q2, getD_of hj]
    · cases h

theorem imp_rc {τ : List Nat} {v : Value} {z z' : Z1} (h : RC W g v z) (hz : z.imp τ = some z') : RC W (g.via τ) v z' := by
  cases z with
  | d x => cases hz; exact h
  | el cs => cases hz; exact h
  | own l sz xs =>
    simp only [Z1.imp] at hz
    split at hz
    · rename_i j hj
      cases hz
      exact ⟨h.1, by show g.ω (τ.getD j 0) = v; rw [getD_of (idx_get hj)]; exact h.2⟩
    · cases hz; exact h.1
  | ptr id off =>
    obtain ⟨j, hj, rfl⟩ := omap hz
    show v = .pointer (some ⟨g.ρ (τ.getD j 0), off, none⟩)
    rw [getD_of (idx_get hj)]; exact h
  | nn T xs => cases hz; exact h
  | pix id off n i =>
    obtain ⟨j, hj, rfl⟩ := omap hz
    show _ ∧ v = .pointer (some ⟨g.ρ (τ.getD j 0), _, none⟩)
    rw [getD_of (idx_get hj)]; exact h
  | row l T =>
    obtain ⟨j, hj, rfl⟩ := omap hz
    show g.ω (τ.getD j 0) = v ∧ _
    rw [getD_of (idx_get hj)]; exact h
  | pel l T i off =>
    obtain ⟨j, hj, rfl⟩ := omap hz
    show ∃ b N cap, g.ω (τ.getD j 0) = _ ∧ _
    rw [getD_of (idx_get hj)]; exact h
  | run T xs => exact h.elim
  | mref id =>
    obtain ⟨j, hj, rfl⟩ := omap hz
    show v = .map (some (g.ρ (τ.getD j 0)))
    rw [getD_of (idx_get hj)]; exact h
  | mp k k' l => exact h.elim
  | hd id off n c =>
    obtain ⟨j, hj, rfl⟩ := omap hz
    show ∃ cap, v = .slice (some ⟨g.ρ (τ.getD j 0), _, none⟩) _ cap ∧ _
    rw [getD_of (idx_get hj)]; exact h
  | mpp k l c => exact h.elim
  | fn f ps =>
    obtain ⟨ps', hp, rfl⟩ := omap hz
    obtain ⟨_, q⟩ := impP_map hp
    have h : v = .func (.func f) #[] (ps.map fun p => Value.pointer (some ⟨g.ρ p.1, p.2, none⟩)).toArray := h
    show v = .func (.func f) #[] (ps'.map fun p => Value.pointer (some ⟨g.ρ (τ.getD p.1 0), p.2, none⟩)).toArray
    rw [h, ← q, List.map_map]; rfl
  | itr m a b c => exact h.elim

theorem imp_low {τ : List Nat} {z z' : Z1} (hz : z.imp τ = some z') : z'.below (· < τ.length) := by
  cases z with
  | d x => cases hz; trivial
  | el cs => cases hz; trivial
  | own l sz xs =>
    simp only [Z1.imp] at hz
    split at hz
    · rename_i j hj
      cases hz
      exact (List.getElem?_eq_some_iff.1 (idx_get hj)).1
    · cases hz; trivial
  | ptr id off =>
    obtain ⟨j, hj, rfl⟩ := omap hz
    exact (List.getElem?_eq_some_iff.1 (idx_get hj)).1
  | nn T xs => cases hz; trivial
  | pix id off n i =>
    obtain ⟨j, hj, rfl⟩ := omap hz
    exact (List.getElem?_eq_some_iff.1 (idx_get hj)).1
  | row l T =>
    obtain ⟨j, hj, rfl⟩ := omap hz
    exact (List.getElem?_eq_some_iff.1 (idx_get hj)).1
  | pel l T i off =>
    obtain ⟨j, hj, rfl⟩ := omap hz
    exact (List.getElem?_eq_some_iff.1 (idx_get hj)).1
  | run T xs => cases hz; trivial
  | mref id =>
    obtain ⟨j, hj, rfl⟩ := omap hz
    exact (List.getElem?_eq_some_iff.1 (idx_get hj)).1
  | mp k k' l => cases hz; trivial
  | hd id off n c =>
    obtain ⟨j, hj, rfl⟩ := omap hz
    exact (List.getElem?_eq_some_iff.1 (idx_get hj)).1
  | mpp k l c => obtain ⟨l', hl, rfl⟩ := omap hz; exact (impM_map hl).1
  | fn f ps => obtain ⟨l', hl, rfl⟩ := omap hz; exact (impP_map hl).1
  | itr m a b c =>
    obtain ⟨j, hj, rfl⟩ := omap hz
    exact (List.getElem?_eq_some_iff.1 (idx_get hj)).1

theorem isRun_two (a b : Z1) (l : List Z1) : isRun (a :: b :: l) = false := by cases a <;> rfl
theorem impL_cons {τ : List Nat} {z : Z1} {r cs' : List Z1} (h : impL τ (z :: r) = some cs') : ∃ z' r', z.imp τ = some z' ∧ impL τ r = some r' ∧ cs' = z' :: r' := by
  simp only [impL] at h
  split at h
  · rename_i z' r' h1 h2; cases h; exact ⟨z', r', h1, h2, rfl⟩
  · cases h
theorem impL_nil {τ : List Nat} {cs' : List Z1} (h : impL τ [] = some cs') : cs' = [] := by simp [impL] at h; exact h
/-- A row's contents, or a map's, are the same in the callee's numbers. -/
theorem imp_run {τ : List Nat} {z : Z1} {T : K} {xs : List T.den} (h : z.imp τ = some (.run T xs)) : z = .run T xs := by
  cases z with
  | run T' xs' => cases h; rfl
  | own l sz xs => simp only [Z1.imp] at h; split at h <;> cases h
  | d x => cases h
  | el cs => cases h
  | nn T xs => cases h
  | mp k k' l => cases h
  | _ => obtain ⟨j, _, e⟩ := omap h; cases e
theorem impL_run {τ : List Nat} {cs : List Z1} {T : K} {xs : List T.den} (h : impL τ cs = some [.run T xs]) : cs = [.run T xs] := by
  cases cs with
  | nil => have := impL_nil h; cases this
  | cons z r =>
    obtain ⟨z', r', h1, h2, e⟩ := impL_cons h
    cases e
    cases r with
    | nil => rw [imp_run h1]
    | cons w r => obtain ⟨_, _, _, _, e⟩ := impL_cons h2; cases e
theorem isRun_imp {τ : List Nat} {cs cs' : List Z1} (h : impL τ cs = some cs') : isRun cs' = isRun cs := by
  cases cs with
  | nil => rw [impL_nil h]
  | cons z r =>
    obtain ⟨z', r', h1, h2, rfl⟩ := impL_cons h
    cases r with
    | cons w r => obtain ⟨_, _, _, _, rfl⟩ := impL_cons h2; rw [isRun_two, isRun_two]
    | nil =>
      rw [impL_nil h2]
      cases hz : isRun [z] with
      | true =>
        cases z <;> simp [isRun] at hz
        cases h1; rfl
      | false =>
        cases hz' : isRun [z'] with
        | false => rfl
        | true =>
          cases z' <;> simp [isRun] at hz'
          rw [imp_run h1] at hz; cases hz

theorem impL_rc {τ : List Nat} : ∀ {cs cs' : List Z1} {vs : List Value}, impL τ cs = some cs' → RCs W g vs cs → RCs W (g.via τ) vs cs'
  | [], cs', vs, h, hr => by simp [impL] at h; subst h; exact ⟨hr.1, by simp⟩
  | z :: r, cs', vs, h, hr => by
    simp only [impL] at h
    split at h
    · rename_i z' r' h1 h2
      cases h
      cases vs with
      | nil => have := hr.1; simp at this
      | cons v vs =>
        have ih := impL_rc h2 ⟨by have := hr.1; simpa using this, fun j u c q1 q2 => hr.2 (j + 1) u c q1 q2⟩
        refine ⟨by have := ih.1; simp [this], fun j u c q1 q2 => ?_⟩
        cases j with
        | zero => simp at q1 q2; subst q1; subst q2; exact imp_rc (hr.2 0 _ _ rfl rfl) h1
        | succ j => exact ih.2 j u c (by simpa using q1) (by simpa using q2)
    · cases h

theorem impV1_rv {τ : List Nat} {v : Value} {z z' : V1} (h : RV W g v z) (hz : z.imp τ = some z') : RV W (g.via τ) v z' := by
  cases z with
  | c z => obtain ⟨w, h1, rfl⟩ := omap hz; exact imp_rc h h1
  | agg cs =>
    obtain ⟨w, h1, rfl⟩ := omap hz
    obtain ⟨vs, hv, hr⟩ := h
    exact ⟨vs, hv, impL_rc h1 hr⟩

theorem impV_rv {τ : List Nat} (h : AI P E g s a W) : ∀ {xs : List Operand} {l : List V1}, impV τ s.ev xs = some l → xs.length = l.length ∧ ∀ (j : Nat) (v : Value) (z : V1), (xs.map a.eval)[j]? = some v → l[j]? = some z → RV W (g.via τ) v z
  | [], l, hl => by simp [impV] at hl; subst hl; simp
  | x :: r, l, hl => by
    simp only [impV] at hl
    split at hl
    · rename_i v l' h1 h2
      cases hl
      obtain ⟨z, hz, hi⟩ := obind h1
      obtain ⟨q1, q2⟩ := impV_rv h h2
      refine ⟨by simp [q1], fun j u c p1 p2 => ?_⟩
      cases j with
      | zero => simp at p1 p2; subst p1; subst p2; exact impV1_rv (h.ev hz).1 hi
      | succ j => exact q2 j u c (by simpa using p1) (by simpa using p2)
    · cases hl

theorem castZ_rc {T : K} {v : Value} {z : Z1} (h : RC W g v z) : RC W g v (castZ T z) := by
  unfold castZ
  split
  · exact (RD.nil_any (show RD W g.F v (.sl 0 _) from h) T.size).2.2
  · exact h
theorem castV_rv {j : Nat} {T : K} {v : Value} {z : V1} (h : RV W g v z) : RV W g v (castV j T z) := by
  cases z with
  | c z => exact castZ_rc h
  | agg cs =>
    obtain ⟨vs, hv, hr⟩ := h
    refine ⟨vs, hv, by simp [hr.1], fun q u c h1 h2 => ?_⟩
    rw [List.getElem?_modify] at h2
    obtain ⟨c0, h3, h4⟩ := omap h2
    have := hr.2 q u c0 h1 h3
    split at h4
    · rw [← h4]; exact castZ_rc this
    · rw [← h4]; exact this
theorem castNil_rv {us : List Value} : ∀ {nk : List (Nat × Nat × K)} {l : List V1}, (us.length = l.length ∧ ∀ (j : Nat) (v : Value) (z : V1), us[j]? = some v → l[j]? = some z → RV W g v z) →
    us.length = (castNil nk l).length ∧ ∀ (j : Nat) (v : Value) (z : V1), us[j]? = some v → (castNil nk l)[j]? = some z → RV W g v z
  | [], _, h => h
  | (i, j, T) :: r, l, h => castNil_rv (nk := r) ⟨by simp [h.1], fun q u c h1 h2 => by
      rw [List.getElem?_modify] at h2
      obtain ⟨c0, h3, h4⟩ := omap h2
      have := h.2 q u c0 h1 h3
      split at h4
      · rw [← h4]; exact castV_rv this
      · rw [← h4]; exact this⟩

theorem BoxIs.imp {τ : List Nat} {b : Nat} {cs cs' : List Z1} (h : BoxIs W g b cs) (hc : impL τ cs = some cs') : BoxIs W (g.via τ) b cs' := by
  rcases h with ⟨vs, ty, hh, hz, hr⟩ | ⟨k, k', l, es, cl, rfl, hh, hr⟩ | ⟨z, o, rfl, hh, hr⟩
  · have h3 := impL_rc hc hr
    have hl : cs'.length = cs.length := by have a := h3.1; have b := hr.1; omega
    exact .inl ⟨vs, ty, hh, by omega, by rw [hl]; exact h3⟩
  · obtain ⟨z', r', h1, h2, rfl⟩ := impL_cons hc
    cases h1; rw [impL_nil h2]
    exact .inr (.inl ⟨k, k', l, es, cl, rfl, hh, hr⟩)
  · obtain ⟨z', r', h1, h2, rfl⟩ := impL_cons hc
    rw [impL_nil h2]
    refine .inr (.inr ⟨z', o, rfl, hh, ?_⟩)
    cases z with
    | mpp k l c =>
      obtain ⟨l', hl, rfl⟩ := omap h1
      obtain ⟨_, q⟩ := impM_map hl
      rw [← hr, ← q]
      simp only [objOf, List.map_map]; rfl
    | itr m a b c =>
      obtain ⟨j, hj, rfl⟩ := omap h1
      rw [← hr]
      simp only [objOf]
      show some (Obj.mapIter (some (g.ρ (τ.getD j 0))) a b.toArray c) = _
      rw [getD_of (idx_get hj)]
    | _ => cases hr

/-- The heap's part that is handed on. -/
theorem impH_spec {τ : List Nat} {live : Nat → Option Ow} {bx : Nat → Option (List Z1)} : ∀ {l : List Nat} {j0 : Nat} {L : List (Nat × Ow)} {B : List (Nat × List Z1)}, impH τ live bx j0 l = some (L, B) →
    (∀ j e, look L j = some e → j0 ≤ j ∧ ∃ k, l[j - j0]? = some k ∧ live k = some e) ∧
    (∀ j cs', look B j = some cs' → j0 ≤ j ∧ ∃ k cs, l[j - j0]? = some k ∧ bx k = some cs ∧ impL τ cs = some cs') ∧
    (∀ j k, l[j - j0]? = some k → j0 ≤ j → ∀ cs, bx k = some cs → (look B j).isSome)
  | [], j0, L, B, h => by
    simp only [impH, Option.some.injEq, Prod.mk.injEq] at h
    obtain ⟨rfl, rfl⟩ := h
    exact ⟨by simp [look], by simp [look], by simp⟩
  | k :: r, j0, L, B, h => by
    simp only [impH] at h
    split at h
    · cases h
    · rename_i L' B' hr
      obtain ⟨i1, i2, i3⟩ := impH_spec hr
      have sh : ∀ j, j0 + 1 ≤ j → (k :: r)[j - j0]? = r[j - (j0 + 1)]? := by
        intro j hj
        rw [show j - j0 = (j - (j0 + 1)) + 1 from by omega]
        rfl
      split at h
      · rename_i cs hb
        obtain ⟨cs', hc, e⟩ := omap h
        simp only [Prod.mk.injEq] at e
        obtain ⟨rfl, rfl⟩ := e
        refine ⟨fun j e he => ?_, fun j c hj => ?_, fun j k' hk hj cs0 hb0 => ?_⟩
        · have old : look L' j = some e → j0 ≤ j ∧ ∃ k', (k :: r)[j - j0]? = some k' ∧ live k' = some e := fun he => by
            obtain ⟨q1, k', q2⟩ := i1 j e he
            exact ⟨by omega, k', by rw [sh j q1]; exact q2⟩
          cases hlk : live k with
          | none => rw [hlk] at he; exact old he
          | some e0 =>
            rw [hlk] at he
            simp only [look] at he
            split at he
            · rename_i e1; subst e1; cases he
              exact ⟨Nat.le_refl _, k, by simp, hlk⟩
            · exact old he
        · simp only [look] at hj
          split at hj
          · rename_i e; subst e; cases hj
            exact ⟨Nat.le_refl _, k, cs, by simp, hb, hc⟩
          · obtain ⟨q1, k', q2⟩ := i2 j c hj
            exact ⟨by omega, k', by rw [sh j q1]; exact q2⟩
        · simp only [look]
          split
          · rfl
          · rename_i hne
            exact i3 j k' (by rw [← sh j (by omega)]; exact hk) (by omega) cs0 hb0
      · rename_i hb
        obtain ⟨e0, hc, e⟩ := omap h
        simp only [Prod.mk.injEq] at e
        obtain ⟨rfl, rfl⟩ := e
        refine ⟨fun j e he => ?_, fun j c hj => ?_, fun j k' hk hj cs0 hb0 => ?_⟩
        · simp only [look] at he
          split at he
          · rename_i e; subst e; cases he
            exact ⟨Nat.le_refl _, k, by simp, hc⟩
          · obtain ⟨q1, k', q2⟩ := i1 j e he
            exact ⟨by omega, k', by rw [sh j q1]; exact q2⟩
        · obtain ⟨q1, k', q2⟩ := i2 j c hj
          exact ⟨by omega, k', by rw [sh j q1]; exact q2⟩
        · by_cases hjj : j0 = j
          · subst hjj; simp at hk; subst hk; rw [hb] at hb0; cases hb0
          · exact i3 j k' (by rw [← sh j (by omega)]; exact hk) (by omega) cs0 hb0
end
end Zed
namespace Zed
open Go
set_option linter.unusedVariables false
set_option linter.unusedSimpArgs false

theorem exp_rc {W : World} {g g3 : G} {σ : Nat → Nat} {n : Nat} (hρ : ∀ j, j < n → g3.ρ (σ j) = g.ρ j) (hω : ∀ j, j < n → g3.ω (σ j) = g.ω j) (hF : g3.F = g.F) {v : Value} {z : Z1} (hz : z.below (· < n)) (h : RC W g v z) : RC W g3 v (z.exp σ) := by
  cases z with
  | d x => show RD W g3.F v x.raw; rw [hF]; exact h
  | own l sz xs => exact ⟨by rw [hF]; exact h.1, (hω l hz).trans h.2⟩
  | ptr id off => show v = .pointer (some ⟨g3.ρ (σ id), off, none⟩); rw [hρ id hz]; exact h
  | nn T xs => exact ⟨by rw [hF]; exact h.1, h.2⟩
  | pix id off n i => show _ ∧ v = .pointer (some ⟨g3.ρ (σ id), _, none⟩); rw [hρ id hz]; exact h
  | row l T => show g3.ω (σ l) = v ∧ _; rw [hω l hz]; exact h
  | pel l T i off => show ∃ b N cap, g3.ω (σ l) = _ ∧ _; rw [hω l hz]; exact h
  | run T xs => exact h.elim
  | mref id => show v = .map (some (g3.ρ (σ id))); rw [hρ id hz]; exact h
  | mp k k' l => exact h.elim
  | hd id off n c => show ∃ cap, v = .slice (some ⟨g3.ρ (σ id), _, none⟩) _ cap ∧ _; rw [hρ id hz]; exact h
  | mpp k l c => exact h.elim
  | fn f ps =>
    have hz : ∀ p ∈ ps, p.1 < n := hz
    have e : (ps.map fun p => (σ p.1, p.2)).map (fun p => Value.pointer (some ⟨g3.ρ p.1, p.2, none⟩)) = ps.map fun p => Value.pointer (some ⟨g.ρ p.1, p.2, none⟩) := by
      rw [List.map_map]
      exact List.map_congr_left fun p hp => by simp only [Function.comp, hρ _ (hz p hp)]
    show v = .func (.func f) #[] ((ps.map fun p => (σ p.1, p.2)).map fun p => Value.pointer (some ⟨g3.ρ p.1, p.2, none⟩)).toArray
    rw [e]; exact h
  | itr m a b c => exact h.elim
  | el cs => 
    obtain ⟨b, o, hv, vs, h1, h2⟩ := h
    exact ⟨b, o, hv, vs, by rw [hF]; exact h1, by rw [hF]; exact h2⟩
theorem exp_rcs {W : World} {g g3 : G} {σ : Nat → Nat} {n : Nat} (hρ : ∀ j, j < n → g3.ρ (σ j) = g.ρ j) (hω : ∀ j, j < n → g3.ω (σ j) = g.ω j) (hF : g3.F = g.F) {vs : List Value} {cs : List Z1} (hz : ∀ c ∈ cs, c.below (· < n)) (h : RCs W g vs cs) : RCs W g3 vs (cs.map (Z1.exp σ)) := by
  refine ⟨by simp [h.1], fun j v z h1 h2 => ?_⟩
  rw [List.getElem?_map] at h2
  obtain ⟨z0, q1, rfl⟩ := omap h2
  exact exp_rc hρ hω hF (hz z0 (List.mem_of_getElem? q1)) (h.2 j v z0 h1 q1)
theorem exp_rv {W : World} {g g3 : G} {σ : Nat → Nat} {n : Nat} (hρ : ∀ j, j < n → g3.ρ (σ j) = g.ρ j) (hω : ∀ j, j < n → g3.ω (σ j) = g.ω j) (hF : g3.F = g.F) {v : Value} {z : V1} (hz : z.below (· < n)) (h : RV W g v z) : RV W g3 v (z.exp σ) := by
  cases z with
  | c z => exact exp_rc hρ hω hF hz h
  | agg cs => obtain ⟨vs, hv, hr⟩ := h; exact ⟨vs, hv, exp_rcs hρ hω hF hz hr⟩
theorem exp_rz {W : World} {g g3 : G} {σ : Nat → Nat} {n : Nat} (hρ : ∀ j, j < n → g3.ρ (σ j) = g.ρ j) (hω : ∀ j, j < n → g3.ω (σ j) = g.ω j) (hF : g3.F = g.F) {v : Value} {z : Z} (hz : z.below (· < n)) (h : RZ W g v z) : RZ W g3 v (z.exp σ) := by
  cases z with
  | one v => exact exp_rv hρ hω hF hz h
  | tup vs =>
    obtain ⟨us, hv, hs, hr⟩ := h
    refine ⟨us, hv, by simp [hs], fun j u z h1 h2 => ?_⟩
    rw [List.getElem?_map] at h2
    obtain ⟨z0, q1, rfl⟩ := omap h2
    exact exp_rv hρ hω hF (hz z0 (List.mem_of_getElem? q1)) (hr j u z0 h1 q1)
  | no => exact h

theorem exp_low {σ : Nat → Nat} {n : Nat} {m : Nat → Prop} (hσ : ∀ j, j < n → m (σ j)) {z : Z1} (h : z.below (· < n)) : (z.exp σ).below m := by
  cases z with
  | d x => trivial
  | own l sz xs => exact hσ l h
  | ptr id off => exact hσ id h
  | el cs => trivial
  | nn T xs => trivial
  | pix id off n i => exact hσ id h
  | row l T => exact hσ l h
  | pel l T i off => exact hσ l h
  | run T xs => trivial
  | mref id => exact hσ id h
  | mp k k' l => trivial
  | hd id off n c => exact hσ id h
  | mpp k l c =>
    intro p hp
    obtain ⟨q, hq, rfl⟩ := List.mem_map.1 hp
    exact hσ _ (h q hq)
  | fn f ps =>
    intro p hp
    obtain ⟨q, hq, rfl⟩ := List.mem_map.1 hp
    exact hσ _ (h q hq)
  | itr m a b c => exact hσ m h
theorem exp_run {σ : Nat → Nat} {z : Z1} {T : K} {xs : List T.den} (h : z.exp σ = .run T xs) : z = .run T xs := by
  cases z <;> first | (cases h; done) | exact h
theorem isRun_exp {σ : Nat → Nat} {cs : List Z1} : isRun (cs.map (Z1.exp σ)) = isRun cs := by
  cases cs with
  | nil => rfl
  | cons z r => cases r with
    | cons w r => rw [List.map_cons, List.map_cons, isRun_two, isRun_two]
    | nil => cases z <;> rfl
theorem expL_run {σ : Nat → Nat} {cs : List Z1} {T : K} {xs : List T.den} (h : cs.map (Z1.exp σ) = [.run T xs]) : cs = [.run T xs] := by
  cases cs with
  | nil => cases h
  | cons z r =>
    simp only [List.map_cons, List.cons.injEq, List.map_eq_nil_iff] at h
    rw [exp_run h.1, h.2]
theorem BoxIs.exp {W : World} {g g3 : G} {σ : Nat → Nat} {n : Nat} (hρ : ∀ j, j < n → g3.ρ (σ j) = g.ρ j) (hω : ∀ j, j < n → g3.ω (σ j) = g.ω j) (hF : g3.F = g.F) {b : Nat} {cs : List Z1} (hz : ∀ c ∈ cs, c.below (· < n)) (h : BoxIs W g b cs) : BoxIs W g3 b (cs.map (Z1.exp σ)) := by
  rcases h with ⟨vs, ty, hh, hy, hr⟩ | ⟨k, k', l, es, cl, rfl, hh, hr⟩ | ⟨z, o, rfl, hh, hr⟩
  · exact .inl ⟨vs, ty, hh, by simpa using hy, by rw [List.length_map]; exact exp_rcs hρ hω hF hz hr⟩
  · exact .inr (.inl ⟨k, k', l, es, cl, rfl, hh, hr⟩)
  · refine .inr (.inr ⟨z.exp σ, o, rfl, hh, hr ▸ ?_⟩)
    have hz := hz z (by simp)
    cases z with
    | mpp k l c =>
      have hl : ∀ p ∈ l, p.2.1 < n := hz
      simp only [objOf, Z1.exp, List.map_map]
      congr 3
      exact List.map_congr_left fun p hp => by simp only [Function.comp, hρ _ (hl p hp)]
    | itr m a b c =>
      have hm : m < n := hz
      simp only [objOf, Z1.exp, hρ _ hm]
    | _ => rfl
theorem exp_lowv {σ : Nat → Nat} {n : Nat} {m : Nat → Prop} (hσ : ∀ j, j < n → m (σ j)) {z : V1} (h : z.below (· < n)) : (z.exp σ).below m := by
  cases z with
  | c z => exact exp_low hσ h
  | agg cs => intro c hc; obtain ⟨c0, h1, rfl⟩ := List.mem_map.1 hc; exact exp_low hσ (h c0 h1)
theorem exp_lowz {σ : Nat → Nat} {n : Nat} {m : Nat → Prop} (hσ : ∀ j, j < n → m (σ j)) {z : Z} (h : z.below (· < n)) : (z.exp σ).below m := by
  cases z with
  | one v => exact exp_lowv hσ h
  | tup vs => intro c hc; obtain ⟨c0, h1, rfl⟩ := List.mem_map.1 hc; exact exp_lowv hσ (h c0 h1)
  | no => trivial

theorem look_map {α β : Type} {σ : Nat → Nat} {f : α → β} : ∀ {l : List (Nat × α)} {k : Nat} {y : β}, look (l.map fun p => (σ p.1, f p.2)) k = some y → ∃ j x, look l j = some x ∧ σ j = k ∧ f x = y
  | [], _, _, h => by cases h
  | (i, x) :: l, k, y, h => by
    simp only [List.map_cons, look] at h
    split at h
    · rename_i hk; cases h; exact ⟨i, x, by simp [look], hk, rfl⟩
    · rename_i hk
      obtain ⟨j, x', h1, h2, h3⟩ := look_map h
      refine ⟨j, x', ?_, h2, h3⟩
      simp only [look]
      rw [if_neg (fun e => hk (by rw [e]; exact h2))]
      exact h1
theorem look_map_some {α β : Type} {σ : Nat → Nat} {f : α → β} : ∀ {l : List (Nat × α)} {j : Nat}, (look l j).isSome → (look (l.map fun p => (σ p.1, f p.2)) (σ j)).isSome
  | [], _, h => by cases h
  | (i, x) :: l, j, h => by
    simp only [List.map_cons, look] at h ⊢
    split
    · rfl
    · rename_i hne
      rw [if_neg (fun e => hne (by rw [e]))] at h
      exact look_map_some h

/-- What a call does to the caller's memory. -/
noncomputable def Out.eff (τ : List Nat) (base : Nat) (o : Out) : Eff :=
  ⟨τ, o.live.map fun p => (sig τ base p.1, p.2), o.bx.map fun p => (sig τ base p.1, p.2.map (Z1.exp (sig τ base)))⟩

theorem impH_dead {τ : List Nat} {live : Nat → Option Ow} {bx : Nat → Option (List Z1)} {k : Nat} (hb : bx k = none) (hl : live k = none) : ∀ {l : List Nat} {j0 : Nat} {x}, k ∈ l → impH τ live bx j0 l ≠ some x
  | [], _, _, h => by cases h
  | k' :: r, j0, x, h => by
    intro hx
    simp only [impH] at hx
    split at hx
    · cases hx
    · rename_i L' B' hr
      rcases List.mem_cons.1 h with e | h'
      · subst e; simp only [hb, hl] at hx; cases hx
      · exact impH_dead hb hl h' hr

section
open Classical
variable {P : Program} {E : Ent} {g : G} {s : S} {a : Act} {W W' : World}

/-- THE CALL. -/
theorem AI.call (h : AI P E g s a W) {dst : Option Nat} {f : FuncId} {args : List Operand} {ps : List (Nat × Nat)} {τ : List Nat} {nk : List (Nat × Nat × K)} {inn : Inn} {out : Out} {base : Nat} {n' : Nat → Prop} (hin : callIn τ nk s.live s.bx s.ev args ps = some inn) (hf : FnOK P f inn out)
    (hd : ∀ d, dst = some d → d < E.nt) (hb : ∀ j, j < out.n → ¬ s.us (base + j)) (hm : ∀ k, s.us k → n' k) (hn : ∀ j, j < out.n → n' (base + j)) :
    Invoked P f (args.map a.eval ++ ps.map fun p => Value.pointer (some ⟨g.ρ p.1, p.2, none⟩)).toArray W fun v W' => ∃ g', AI P E g' (s.go dst (out.val.exp (sig τ base)) (out.eff τ base) n') (a.put dst v) W' := by
  unfold callIn at hin
  split at hin
  case h_2 => cases hin
  rename_i vs qs L B hvs hqs hLB
  split at hin
  case isFalse => cases hin
  rename_i hnd
  cases hin
  have hnd := nodup_of hnd
  obtain ⟨hok, hf⟩ := hf
  obtain ⟨hv1', hv2'⟩ := impV_rv h hvs
  obtain ⟨hq1, hq2⟩ := impP_map hqs
  have hqv : ∀ (j : Nat) (v : Value) (z : V1), (ps.map fun p => Value.pointer (some ⟨g.ρ p.1, p.2, none⟩))[j]? = some v → (qs.map fun p => V1.c (.ptr p.1 p.2))[j]? = some z → RV W (g.via τ) v z := by
    intro j v z h1 h2
    rw [← hq2, List.map_map, List.getElem?_map] at h1
    rw [List.getElem?_map] at h2
    obtain ⟨p, hp, rfl⟩ := omap h2
    rw [hp] at h1
    cases h1
    rfl
  have hql : (ps.map fun p => Value.pointer (some ⟨g.ρ p.1, p.2, none⟩)).length = (qs.map fun p => V1.c (.ptr p.1 p.2)).length := by rw [← hq2]; simp
  generalize hus : (ps.map fun p => Value.pointer (some ⟨g.ρ p.1, p.2, none⟩)) = us at *
  obtain ⟨hv1, hv2⟩ := castNil_rv (us := args.map a.eval ++ us) (nk := nk) (l := vs ++ qs.map fun p => V1.c (.ptr p.1 p.2)) ⟨by simp [hv1', hql], fun j v z h1 h2 => by
    by_cases hj : j < args.length
    · rw [List.getElem?_append_left (by simpa using hj)] at h1
      rw [List.getElem?_append_left (by omega)] at h2
      exact hv2' j v z h1 h2
    · rw [List.getElem?_append_right (by simpa using hj)] at h1
      rw [List.getElem?_append_right (by omega)] at h2
      rw [List.length_map] at h1
      exact hqv _ v z h1 (by rw [hv1']; exact h2)⟩
  obtain ⟨i1, i2, i3⟩ := impH_spec hLB
  -- the callee's world
  let T : Nat → Prop := fun b => ∃ k ∈ τ, (∃ cs, bc s.bx k = some cs ∧ g.ρ k = b) ∨ (∃ e, s.live k = some e ∧ (g.ω k).ownBlock = some b)
  let E' : Ent := ⟨W, g.F, T, τ.length, (g.via τ).ρ, (g.via τ).ω, 0, []⟩
  have hlt : ∀ {j k : Nat}, τ[j]? = some k → j < τ.length := fun hj => (List.getElem?_eq_some_iff.1 hj).1
  have hget : ∀ {j k : Nat}, τ[j]? = some k → τ.getD j 0 = k := fun hj => getD_of hj
  have tInj : ∀ {j j' k : Nat}, τ[j]? = some k → τ[j']? = some k → j = j' := by
    intro j j' k hj hj'
    obtain ⟨h1, h2⟩ := List.getElem?_eq_some_iff.1 hj
    obtain ⟨h3, h4⟩ := List.getElem?_eq_some_iff.1 hj'
    exact (List.getElem_inj hnd).1 (h2.trans h4.symm)
  have hLk : ∀ j e, look L j = some e → ∃ k, τ[j]? = some k ∧ s.live k = some e := fun j e he => by
    obtain ⟨_, k, h1, h2⟩ := i1 j e he
    exact ⟨k, by simpa using h1, h2⟩
  have hBk : ∀ j cs', look B j = some cs' → ∃ k cs, τ[j]? = some k ∧ s.bx k = some cs ∧ impL τ cs = some cs' := fun j cs' hj => by
    obtain ⟨_, k, cs, h1, h2, h3⟩ := i2 j cs' hj
    exact ⟨k, cs, by simpa using h1, h2, h3⟩
  have hBc : ∀ j cs', bc (look B) j = some cs' → ∃ k cs, τ[j]? = some k ∧ bc s.bx k = some cs ∧ impL τ cs = some cs' := fun j cs' hj => by
    obtain ⟨hj, hn⟩ := bc_some hj
    obtain ⟨k, cs, h1, h2, h3⟩ := hBk j cs' hj
    exact ⟨k, cs, h1, bc_of h2 (by rw [← isRun_imp h3]; exact hn), h3⟩
  have hτ : ∀ k ∈ τ, s.us k := by
    intro k hk
    obtain ⟨j, hj⟩ := List.mem_iff_getElem?.1 hk
    cases hbk : s.bx k with
    | some cs => exact (h.boxLow k cs hbk).1
    | none =>
      cases hlk : s.live k with
      | some e => exact h.liveLow k e hlk
      | none => exact absurd hLB (impH_dead hbk hlk hk)
  have hHR : HR P (g.via τ) (look L) (look B) W := fun j T xs e hj he hk => by
    obtain ⟨k, cs, h1, h2, h3⟩ := hBk j _ hj
    obtain ⟨k', h1', h2'⟩ := hLk j e he
    have hkk : k = k' := Option.some.inj (h1.symm.trans h1')
    subst hkk
    have := h.r k T xs e (by rw [h2, impL_run h3]) h2' hk
    show RowIs P W g.F e.e (g.ω (τ.getD j 0)) T xs
    rw [hget h1]; exact this
  have hHI : HI P E' (g.via τ) (look L) (bc (look B)) W := {
    own := fun j e he => by
      obtain ⟨k, h1, h2⟩ := hLk j e he
      show OwnV P W g.F (g.ω (τ.getD j 0)) e
      rw [hget h1]; exact h.h.own k e h2
    ownNe := fun j e j' e' he he' hne b hb1 hb2 => by
      obtain ⟨k, h1, h2⟩ := hLk j e he
      obtain ⟨k', h1', h2'⟩ := hLk j' e' he'
      have hb1 : (g.ω (τ.getD j 0)).ownBlock = some b := hb1
      have hb2 : (g.ω (τ.getD j' 0)).ownBlock = some b := hb2
      rw [hget h1] at hb1; rw [hget h1'] at hb2
      exact h.h.ownNe k e k' e' h2 h2' (fun q => hne (tInj h1 (q ▸ h1'))) b hb1 hb2
    ownMay := fun j e he b hb1 => by
      obtain ⟨k, h1, h2⟩ := hLk j e he
      have hb1 : (g.ω (τ.getD j 0)).ownBlock = some b := hb1
      rw [hget h1] at hb1
      exact .inl ⟨k, List.mem_of_getElem? h1, .inr ⟨e, h2, hb1⟩⟩
    box := fun j cs' hj => by
      obtain ⟨k, cs, h1, h2, h3⟩ := hBc j cs' hj
      obtain ⟨q1, q3⟩ := h.h.box k cs h2
      show BoxIs W (g.via τ) (g.ρ (τ.getD j 0)) cs' ∧ ∀ o, ¬ g.F (g.ρ (τ.getD j 0)) o
      rw [hget h1]
      exact ⟨q1.imp h3, q3⟩
    boxNe := fun j j' c c' hj hj' hne hc => by
      obtain ⟨k, cs, h1, h2, h3⟩ := hBc j c hj
      obtain ⟨k', cs', h1', h2', h3'⟩ := hBc j' c' hj'
      have hc : g.ρ (τ.getD j 0) = g.ρ (τ.getD j' 0) := hc
      rw [hget h1, hget h1'] at hc
      exact h.h.boxNe k k' cs cs' h2 h2' (fun q => hne (tInj h1 (q ▸ h1'))) hc
    boxMay := fun j c hj => by
      obtain ⟨k, cs, h1, h2, h3⟩ := hBc j c hj
      show E'.may (g.ρ (τ.getD j 0))
      rw [hget h1]
      exact .inl ⟨k, List.mem_of_getElem? h1, .inl ⟨cs, h2, rfl⟩⟩
    boxOwn := fun j c l e hj hl hc => by
      obtain ⟨k, cs, h1, h2, h3⟩ := hBc j c hj
      obtain ⟨k', h1', h2'⟩ := hLk l e hl
      have hc : (g.ω (τ.getD l 0)).ownBlock = some (g.ρ (τ.getD j 0)) := hc
      rw [hget h1, hget h1'] at hc
      exact h.h.boxOwn k cs k' e h2 h2' hc }
  have hWB : WB E' g.F W := ⟨h.b.fz, rfl, rfl, rfl, Nat.le_refl _, fun _ _ _ => rfl, Keeps.refl _ _, fun b o hf => .inl hf⟩
  have run := hf E' (g.via τ) W (args.map a.eval ++ us).toArray (by rw [List.size_toArray]; exact hv1) (fun j v z q1 q2 => hv2 j v z (by simpa using q1) q2) rfl (fun j _ => ⟨rfl, rfl⟩) rfl rfl hHI hHR hWB
  -- and back
  have back : ∀ v W', (∃ g', RZ W' g' v out.val ∧ HI P E' g' (look out.live) (bc (look out.bx)) W' ∧ HR P g' (look out.live) (look out.bx) W' ∧ WB E' g'.F W' ∧ ∀ j, j < τ.length → g'.ρ j = (g.via τ).ρ j ∧ g'.ω j = (g.via τ).ω j) →
      ∃ g', AI P E g' (s.go dst (out.val.exp (sig τ base)) (out.eff τ base) n') (a.put dst v) W' := by
    rintro v W' ⟨g2, r1, r2, rr, r3, r4⟩
    simp only [Out.ok, Bool.and_eq_true, List.all_eq_true, Nat.blt_eq, Nat.ble_eq] at hok
    obtain ⟨⟨⟨⟨o1, o2⟩, o3⟩, o4⟩, o5⟩ := hok
    let g3 : G := ⟨g2.F, fun k => if s.us k then g.ρ k else g2.ρ (k - base), fun k => if s.us k then g.ω k else g2.ω (k - base)⟩
    have hA : ∀ {l : Nat} {e : Ow}, look (out.eff τ base).add l = some e → ∃ j, look out.live j = some e ∧ sig τ base j = l ∧ j < out.n := by
      intro l e hl
      obtain ⟨j, x, q1, q2, q3⟩ := look_map (σ := sig τ base) (f := fun e : Ow => e) hl
      exact ⟨j, by rw [← q3]; exact q1, q2, o2 _ (look_mem q1)⟩
    have hB' : ∀ {i : Nat} {c : List Z1}, look (out.eff τ base).put i = some c → ∃ j c0, look out.bx j = some c0 ∧ sig τ base j = i ∧ c0.map (Z1.exp (sig τ base)) = c ∧ j < out.n ∧ ∀ z ∈ c0, z.below (· < out.n) := by
      intro i c hi
      obtain ⟨j, x, q1, q2, q3⟩ := look_map (σ := sig τ base) (f := fun c : List Z1 => c.map (Z1.exp (sig τ base))) hi
      obtain ⟨p1, p2⟩ := o3 _ (look_mem q1)
      exact ⟨j, x, q1, q2, q3, p1, fun z hz => Z1.low_of (p2 z hz)⟩
    have sigLt : ∀ j, j < τ.length → sig τ base j ∈ τ ∧ s.us (sig τ base j) := by
      intro j hj
      have e : τ[j]? = some (τ.getD j 0) := by simp [List.getD, List.getElem?_eq_getElem hj]
      have hmem := List.mem_of_getElem? e
      simp only [sig, if_pos hj]
      exact ⟨hmem, hτ _ hmem⟩
    have sρ : ∀ j, j < out.n → g3.ρ (sig τ base j) = g2.ρ j := by
      intro j hjn
      by_cases hj : j < τ.length
      · show (if s.us (sig τ base j) then g.ρ (sig τ base j) else _) = _
        rw [if_pos (sigLt j hj).2, (r4 j hj).1]
        simp only [sig, if_pos hj]; rfl
      · show (if s.us (sig τ base j) then g.ρ (sig τ base j) else g2.ρ (sig τ base j - base)) = _
        have : sig τ base j = base + j := by simp only [sig, if_neg hj]
        rw [this, if_neg (hb j hjn)]; congr 1; omega
    have sω : ∀ j, j < out.n → g3.ω (sig τ base j) = g2.ω j := by
      intro j hjn
      by_cases hj : j < τ.length
      · show (if s.us (sig τ base j) then g.ω (sig τ base j) else _) = _
        rw [if_pos (sigLt j hj).2, (r4 j hj).2]
        simp only [sig, if_pos hj]; rfl
      · show (if s.us (sig τ base j) then g.ω (sig τ base j) else g2.ω (sig τ base j - base)) = _
        have : sig τ base j = base + j := by simp only [sig, if_neg hj]
        rw [this, if_neg (hb j hjn)]; congr 1; omega
    have sigB : ∀ j, j < out.n → n' (sig τ base j) := by
      intro j hj
      by_cases hj' : j < τ.length
      · exact hm _ (sigLt j hj').2
      · simp only [sig, if_neg hj']; exact hn j hj
    have hlow : ∀ {i : Nat}, s.us i → g3.ρ i = g.ρ i ∧ g3.ω i = g.ω i := by
      intro i hi
      exact ⟨if_pos hi, if_pos hi⟩
    have tMay : ∀ b, T b → E.may b := by
      rintro b ⟨k, _, ⟨cs, h1, rfl⟩ | ⟨e, h1, h2⟩⟩
      · exact h.h.boxMay k cs h1
      · exact h.h.ownMay k e h1 b h2
    have eMay : ∀ b, E'.may b → E.may b := by
      rintro b (hT | hge)
      · exact tMay b hT
      · exact .inr (Nat.le_trans h.b.size hge)
    have hg : Goes W W' T := ⟨r3.os, r3.tape, r3.output, r3.size, fun b hb1 hT => r3.block b hb1 hT⟩
    have hk : Keeps g.F g3.F W W' := r3.keeps
    have hF : ∀ b o, g3.F b o → g.F b o ∨ ((T b ∨ W.heap.size ≤ b) ∧ b < W'.heap.size) := fun b o hf => (r3.fmay b o hf).imp id (fun q => ⟨q, r3.fz b o hf⟩)
    have apartB : ∀ {k : Nat} {cs : List Z1}, bc s.bx k = some cs → k ∉ τ → ¬ T (g.ρ k) := by
      rintro k cs hk hkt ⟨k', hk', ⟨cs', h1, h2⟩ | ⟨e, h1, h2⟩⟩
      · exact h.h.boxNe k' k cs' cs h1 hk (fun q => hkt (q ▸ hk')) h2
      · exact h.h.boxOwn k cs k' e hk h1 h2
    have apartL : ∀ {k : Nat} {e : Ow} {b : Nat}, s.live k = some e → k ∉ τ → (g.ω k).ownBlock = some b → ¬ T b := by
      rintro k e b hk hkt hb1 ⟨k', hk', ⟨cs', h1, h2⟩ | ⟨e', h1, h2⟩⟩
      · exact h.h.boxOwn k' cs' k e h1 hk (h2 ▸ hb1)
      · exact h.h.ownNe k' e' k e h1 hk (fun q => hkt (q ▸ hk')) b h2 hb1
    have hBc' : ∀ {i : Nat} {c : List Z1}, bc (look (out.eff τ base).put) i = some c → ∃ j c0, bc (look out.bx) j = some c0 ∧ sig τ base j = i ∧ c0.map (Z1.exp (sig τ base)) = c ∧ j < out.n ∧ ∀ z ∈ c0, z.below (· < out.n) := by
      intro i c hi
      obtain ⟨hi, hn⟩ := bc_some hi
      obtain ⟨j, c0, q1, q2, q3, q4, q5⟩ := hB' hi
      exact ⟨j, c0, bc_of q1 (by rw [← isRun_exp (σ := sig τ base), q3]; exact hn), q2, q3, q4, q5⟩
    have h1 : HI P E g3 (fun k => if τ.contains k then none else s.live k) (fun k => if τ.contains k then none else bc s.bx k) W' :=
      h.h.goes (n := s.us) hg hk (fun b o hf => (hF b o hf).imp id (fun q => q.1)) (fun i hi => (hlow hi).1) (fun i hi => (hlow hi).2)
        (fun l e hl => by
          split at hl
          · cases hl
          · rename_i hne
            exact ⟨h.liveLow l e hl, hl, fun b hb1 => apartL hl (by simpa using hne) hb1⟩)
        (fun i c hi => by
          split at hi
          · cases hi
          · rename_i hne
            exact ⟨(h.boxLow i c (bc_some hi).1).1, hi, (h.boxLow i c (bc_some hi).1).2, apartB hi (by simpa using hne)⟩)
    have h2 : HI P E g3 (look (out.eff τ base).add) (bc (look (out.eff τ base).put)) W' := {
      own := fun l e hl => by
        obtain ⟨j, q1, rfl, n1⟩ := hA hl
        rw [sω j n1]; exact r2.own j e q1
      ownNe := fun l e l' e' hl hl' hne b hb1 hb2 => by
        obtain ⟨j, q1, rfl, n1⟩ := hA hl
        obtain ⟨j', q1', rfl, n2⟩ := hA hl'
        rw [sω j n1] at hb1; rw [sω j' n2] at hb2
        exact r2.ownNe j e j' e' q1 q1' (fun q => hne (by rw [q])) b hb1 hb2
      ownMay := fun l e hl b hb1 => by
        obtain ⟨j, q1, rfl, n1⟩ := hA hl
        rw [sω j n1] at hb1
        exact eMay b (r2.ownMay j e q1 b hb1)
      box := fun i c hi => by
        obtain ⟨j, c0, q1, rfl, rfl, n1, m1⟩ := hBc' hi
        obtain ⟨p1, p3⟩ := r2.box j c0 q1
        rw [sρ j n1]
        exact ⟨p1.exp sρ sω rfl m1, p3⟩
      boxNe := fun i i' c c' hi hi' hne hc => by
        obtain ⟨j, c0, q1, rfl, rfl, n1, m1⟩ := hBc' hi
        obtain ⟨j', c0', q1', rfl, rfl, n2, m2⟩ := hBc' hi'
        rw [sρ j n1, sρ j' n2] at hc
        exact r2.boxNe j j' c0 c0' q1 q1' (fun q => hne (by rw [q])) hc
      boxMay := fun i c hi => by
        obtain ⟨j, c0, q1, rfl, rfl, n1, m1⟩ := hBc' hi
        rw [sρ j n1]
        exact eMay _ (r2.boxMay j c0 q1)
      boxOwn := fun i c l e hi hl hc => by
        obtain ⟨j, c0, q1, rfl, rfl, n1, m1⟩ := hBc' hi
        obtain ⟨j', q1', rfl, n2⟩ := hA hl
        rw [sω j' n2, sρ j n1] at hc
        exact r2.boxOwn j c0 j' e q1 q1' hc }
    have newL : ∀ {l : Nat} {e : Ow} {b : Nat}, look (out.eff τ base).add l = some e → (g3.ω l).ownBlock = some b → T b ∨ W.heap.size ≤ b := by
      intro l e b hl hb1
      obtain ⟨j, q1, rfl, n1⟩ := hA hl
      rw [sω j n1] at hb1
      exact r2.ownMay j e q1 b hb1
    have newB : ∀ {i : Nat} {c : List Z1}, bc (look (out.eff τ base).put) i = some c → T (g3.ρ i) ∨ W.heap.size ≤ g3.ρ i := by
      intro i c hi
      obtain ⟨j, c0, q1, rfl, rfl, n1, m1⟩ := hBc' hi
      rw [sρ j n1]
      exact r2.boxMay j c0 q1
    have oldL : ∀ {l : Nat} {e : Ow} {b : Nat}, (if τ.contains l then none else s.live l) = some e → (g3.ω l).ownBlock = some b → ¬ T b ∧ b < W.heap.size := by
      intro l e b hl hb1
      split at hl
      · cases hl
      · rename_i hne
        rw [(hlow (h.liveLow l e hl)).2] at hb1
        exact ⟨apartL hl (by simpa using hne) hb1, (h.h.own l e hl).lt hb1⟩
    have oldB : ∀ {i : Nat} {c : List Z1}, (if τ.contains i then none else bc s.bx i) = some c → ¬ T (g3.ρ i) ∧ g3.ρ i < W.heap.size := by
      intro i c hi
      split at hi
      · cases hi
      · rename_i hne
        rw [(hlow (h.boxLow i c (bc_some hi).1).1).1]
        exact ⟨apartB hi (by simpa using hne), (h.h.box i c hi).1.lt⟩
    have inj : ∀ {j j' : Nat}, j < out.n → j' < out.n → sig τ base j = sig τ base j' → j = j' := by
      intro j j' hj hj' he
      have getE : ∀ {q : Nat}, q < τ.length → τ[q]? = some (sig τ base q) := fun {q} hq => by
        simp only [sig, if_pos hq]
        simp [List.getD, List.getElem?_eq_getElem hq]
      by_cases h1 : j < τ.length
      · by_cases h2 : j' < τ.length
        · exact tInj (getE h1) (by rw [he]; exact getE h2)
        · exfalso
          have e1 := (sigLt j h1).2
          rw [he] at e1
          simp only [sig, if_neg h2] at e1
          exact hb j' hj' e1
      · by_cases h2 : j' < τ.length
        · exfalso
          have e1 := (sigLt j' h2).2
          rw [← he] at e1
          simp only [sig, if_neg h1] at e1
          exact hb j hj e1
        · simp only [sig, if_neg h1, if_neg h2] at he; omega
    have putS : ∀ {i : Nat} {c : List Z1}, s.bx i = some c → i ∈ τ → look (out.eff τ base).put i ≠ none := by
      intro i c hi hit q
      obtain ⟨j, hj⟩ := List.mem_iff_getElem?.1 hit
      have hB := i3 j i (by simpa using hj) (Nat.zero_le _) c hi
      have hjo : (look out.bx j).isSome := by
        cases hBj : look B j with
        | none => rw [hBj] at hB; cases hB
        | some c' => exact o4 _ (look_mem hBj)
      have hs : sig τ base j = i := by simp only [sig, if_pos (hlt hj)]; exact hget hj
      have := look_map_some (σ := sig τ base) (f := fun c : List Z1 => c.map (Z1.exp (sig τ base))) hjo
      rw [hs] at this
      have hq : look (out.bx.map fun p => (sig τ base p.1, p.2.map (Z1.exp (sig τ base)))) i = none := q
      rw [hq] at this
      cases this
    have hRows : HR P g3 ((out.eff τ base).lv s.live) ((out.eff τ base).bv s.bx) W' := by
      intro i T0 xs e hi hl hk2
      simp only [Eff.bv] at hi
      simp only [Eff.lv] at hl
      have usB : ∀ {j : Nat}, j < out.n → ¬ j < τ.length → ¬ s.us (sig τ base j) := fun {j} hj hn hq => by
        simp only [sig, if_neg hn] at hq; exact hb j hj hq
      split at hi
      · rename_i c hput
        cases hi
        obtain ⟨j, c0, q1, q2, q3, q4, q5⟩ := hB' hput
        split at hl
        · rename_i e' hadd
          cases hl
          obtain ⟨j', p1, p2, p3⟩ := hA hadd
          have : j = j' := inj q4 p3 (by rw [q2, p2])
          subst this
          have := rr j T0 xs e (by rw [q1, expL_run q3]) p1 hk2
          rw [← q2, sω j q4]; exact this
        · exfalso
          split at hl
          · cases hl
          · rename_i hne
            have hu := h.liveLow i e hl
            by_cases hjt : j < τ.length
            · exact hne (by have := (sigLt j hjt).1; rw [q2] at this; simpa [Out.eff] using this)
            · exact usB q4 hjt (by rw [q2]; exact hu)
      · rename_i hput
        have hu := (h.boxLow i _ hi).1
        split at hl
        · rename_i e' hadd
          exfalso
          obtain ⟨j', p1, p2, p3⟩ := hA hadd
          by_cases hjt : j' < τ.length
          · exact putS hi (by have := (sigLt j' hjt).1; rw [p2] at this; exact this) hput
          · exact usB p3 hjt (by rw [p2]; exact hu)
        · split at hl
          · cases hl
          · rename_i hne
            rw [(hlow hu).2]
            exact (h.r i T0 xs e hi hl hk2).keep hk (fun b hb1 => hg.block b ((h.h.own i e hl).lt hb1) (apartL hl (by simpa [Out.eff] using hne) hb1))
    refine ⟨g3, h.step hd hm hk (fun i hi => (hlow hi).1) (fun i hi => (hlow hi).2) (h.b.goes hg tMay hk hF)
      (h1.union h2 (fun l e hl => ?_) (fun i c hi => ?_) (fun l e l' e' hl hl' b hb1 hb2 => ?_) (fun i c i' c' hi hi' hc => ?_) (fun i c l e hi hl hc => ?_) (fun i c l e hi hl hc => ?_)) hRows (fun l e hl => ?_) (fun i c hi => ?_)
      (exp_rz sρ sω rfl (Z.low_of o1) r1) (exp_lowz sigB (Z.low_of o1))⟩
    · simp only [Eff.lv] at hl
      split at hl
      · rename_i q; cases hl; exact .inr q
      · exact .inl hl
    · obtain ⟨hi, hnr⟩ := bc_some hi
      simp only [Eff.bv] at hi
      split at hi
      · rename_i q; cases hi; exact .inr (bc_of q hnr)
      · rename_i q
        by_cases hit : i ∈ τ
        · exact absurd q (putS hi hit)
        · exact .inl (by simp [hit, bc_of hi hnr])
    · obtain ⟨p1, p2⟩ := oldL hl hb1
      rcases newL hl' hb2 with q | q
      · exact p1 q
      · omega
    · obtain ⟨p1, p2⟩ := oldB hi
      rcases newB hi' with q | q
      · exact p1 (hc ▸ q)
      · omega
    · obtain ⟨p1, p2⟩ := oldB hi
      rcases newL hl hc with q | q
      · exact p1 q
      · omega
    · obtain ⟨p1, p2⟩ := oldL hl hc
      rcases newB hi with q | q
      · exact p1 q
      · omega
    · simp only [Eff.lv] at hl
      split at hl
      · rename_i q
        obtain ⟨j, q1, rfl, n1⟩ := hA q
        exact sigB j n1
      · split at hl
        · cases hl
        · exact hm l (h.liveLow l e hl)
    · simp only [Eff.bv] at hi
      split at hi
      · rename_i q
        cases hi
        obtain ⟨j, c0, q1, rfl, rfl, n1, m1⟩ := hB' q
        refine ⟨sigB j n1, fun z hz => ?_⟩
        obtain ⟨z0, mm, rfl⟩ := List.mem_map.1 hz
        exact exp_low sigB (m1 z0 mm)
      · obtain ⟨q1, q2⟩ := h.boxLow i c hi
        exact ⟨hm i q1, fun z hz => Z1.below_mono hm (q2 z hz)⟩
  rcases run with ⟨q1, q2⟩ | ⟨v, W', q1, q2⟩
  · exact .inl ⟨q1, q2.mono fun e W' ⟨v, e1, hh⟩ => ⟨v, e1, back v W' hh⟩⟩
  · exact .inr ⟨v, W', q1, back v W' q2⟩
end
end Zed
namespace Zed
open Go
set_option linter.unusedVariables false
set_option linter.unusedSimpArgs false

/-- A choice: which way a test goes; what a call is handed and leaves. -/
inductive Ch where
  | b (v : Bool)
  | call (τ : List Nat) (nk : List (Nat × Nat × K)) (o : Out)
  | row
  | pix (o n i : Nat)
  | callR (τ : List Nat) (nk : List (Nat × Nat × K)) (o : Out)
  | hd
  | callW (τ : List Nat) (nk : List (Nat × Nat × K)) (o : Out) (wr : List Nat)
noncomputable def isRow : Option Ch → Bool
  | some .row => true
  | _ => false

noncomputable def isHd : Option Ch → Bool
  | some .hd => true
  | _ => false

noncomputable def chosen (ch : Option Ch) (st : Stp) : Option Stp :=
  match ch with
  | some (.b v) => match st.z with
    | .one (.c (.d (.bool u))) => some ⟨.one (.c (.d (.bool v))), st.e, st.rd, (match st.C with
      | none => cq (u = v)
      | some c => cq (c.p ∧ u = v))⟩
    | _ => none
  | some (.pix o n i) => match st.z with
    | .one (.c (.ptr id off)) => some ⟨.one (.c (.pix id o n i)), st.e, st.rd, (match st.C with
      | none => cq (off = o + i ∧ i < n)
      | some c => cq (c.p ∧ off = o + i ∧ i < n))⟩
    | _ => none
  | _ => some st

/-- What is put is what is there. -/
noncomputable def AllS (bx : Nat → Option (List Z1)) : List (Nat × List Z1) → Prop
  | [] => True
  | p :: r => (match bx p.1 with
    | some cs => p.2 = cs
    | none => False) ∧ AllS bx r
theorem allS_spec {bx : Nat → Option (List Z1)} : ∀ {l : List (Nat × List Z1)}, AllS bx l → ∀ p ∈ l, bx p.1 = some p.2
  | [], _, p, hp => by cases hp
  | q :: r, h, p, hp => by
    obtain ⟨h1, h2⟩ := h
    rcases List.mem_cons.1 hp with rfl | hp
    · cases hb : bx p.1 with
      | none => rw [hb] at h1; exact h1.elim
      | some cs => rw [hb] at h1; rw [show p.2 = cs from h1]
    · exact allS_spec h2 p hp
theorem impH_nolive {τ : List Nat} {live : Nat → Option Ow} {bx : Nat → Option (List Z1)} : ∀ {l : List Nat} {j0 : Nat} {B}, impH τ live bx j0 l = some ([], B) → ∀ k ∈ l, live k = none
  | [], _, _, _, k, hk => by cases hk
  | k' :: r, j0, B, h, k, hk => by
    simp only [impH] at h
    split at h
    · cases h
    · rename_i L' B' hr
      split at h
      · rename_i cs hb
        obtain ⟨cs', hc, e⟩ := omap h
        simp only [Prod.mk.injEq] at e
        obtain ⟨e1, _⟩ := e
        cases hlk : live k' with
        | some e0 => rw [hlk] at e1; cases e1
        | none =>
          rw [hlk] at e1
          have e1 : L' = [] := e1
          subst e1
          rcases List.mem_cons.1 hk with rfl | hk
          · exact hlk
          · exact impH_nolive hr k hk
      · obtain ⟨e0, hc, e⟩ := omap h
        simp only [Prod.mk.injEq] at e
        cases e.1

/-! A call of which it is told what it writes. -/
noncomputable def keepW (τ wr : List Nat) (j : Nat) : Bool := !(Nat.blt j τ.length) || wr.contains j
noncomputable def Out.effW (τ : List Nat) (base : Nat) (wr : List Nat) (o : Out) : Eff :=
  ⟨(wr.filter fun j => Nat.blt j τ.length).map fun j => τ.getD j 0, (o.live.filter fun p => keepW τ wr p.1).map fun p => (sig τ base p.1, p.2), (o.bx.filter fun p => keepW τ wr p.1).map fun p => (sig τ base p.1, p.2.map (Z1.exp (sig τ base)))⟩
noncomputable def SameW (live : Nat → Option Ow) (bx : Nat → Option (List Z1)) (τ : List Nat) (base : Nat) (o : Out) (wr : List Nat) : Prop :=
  ∀ j k, τ[j]? = some k → wr.contains j = false → bx k = (look o.bx j).map (fun cs => cs.map (Z1.exp (sig τ base))) ∧ live k = look o.live j
theorem look_keep {α β : Type} {σ : Nat → Nat} {f : α → β} {keep : Nat → Bool} {k : Nat} : ∀ {l : List (Nat × α)}, (∀ p ∈ l, σ p.1 = k → keep p.1 = true) → look ((l.filter fun p => keep p.1).map fun p => (σ p.1, f p.2)) k = look (l.map fun p => (σ p.1, f p.2)) k
  | [], _ => rfl
  | (i, x) :: r, h => by
    have ih := look_keep (l := r) (f := f) (fun p hp => h p (List.mem_cons_of_mem _ hp))
    by_cases hk : keep i = true
    · rw [List.filter_cons_of_pos (by exact hk)]
      simp only [List.map_cons, look]
      rw [ih]
    · rw [List.filter_cons_of_neg (by exact hk)]
      simp only [List.map_cons, look]
      rw [if_neg (fun e => hk (h (i, x) (by simp) e)), ih]
theorem look_drop {α β : Type} {σ : Nat → Nat} {f : α → β} {keep : Nat → Bool} {k : Nat} : ∀ {l : List (Nat × α)}, (∀ p ∈ l, σ p.1 = k → keep p.1 = false) → look ((l.filter fun p => keep p.1).map fun p => (σ p.1, f p.2)) k = none
  | [], _ => rfl
  | (i, x) :: r, h => by
    have ih := look_drop (l := r) (f := f) (fun p hp => h p (List.mem_cons_of_mem _ hp))
    by_cases hk : keep i = true
    · rw [List.filter_cons_of_pos (by exact hk)]
      simp only [List.map_cons, look]
      rw [if_neg (fun e => by have := h (i, x) (by simp) e; rw [hk] at this; cases this), ih]
    · rw [List.filter_cons_of_neg (by exact hk)]; exact ih
theorem look_at {α β : Type} {σ : Nat → Nat} {f : α → β} {k j : Nat} : ∀ {l : List (Nat × α)}, (∀ p ∈ l, σ p.1 = k ↔ p.1 = j) → look (l.map fun p => (σ p.1, f p.2)) k = (look l j).map f
  | [], _ => rfl
  | (i, x) :: r, h => by
    have ih := look_at (l := r) (f := f) (fun p hp => h p (List.mem_cons_of_mem _ hp))
    have h0 := h (i, x) (by simp)
    simp only [List.map_cons, look]
    by_cases hi : i = j
    · rw [if_pos (h0.2 hi), if_pos hi]; rfl
    · rw [if_neg (fun e => hi (h0.1 e)), if_neg hi, ih]
theorem effW_same {live : Nat → Option Ow} {bx : Nat → Option (List Z1)} {us : Nat → Prop} {τ wr : List Nat} {base : Nat} {o : Out} (hnd : τ.Nodup) (hτ : ∀ k ∈ τ, us k) (hb : ∀ j, j < o.n → ¬ us (base + j)) (hl : ∀ p ∈ o.live, p.1 < o.n) (hx : ∀ p ∈ o.bx, p.1 < o.n)
    (hB : ∀ k ∈ τ, ∀ j cs, τ[j]? = some k → bx k = some cs → (look o.bx j).isSome) (h : SameW live bx τ base o wr) :
    (o.eff τ base).lv live = (o.effW τ base wr).lv live ∧ (o.eff τ base).bv bx = (o.effW τ base wr).bv bx := by
  have tInj : ∀ {j j' k : Nat}, τ[j]? = some k → τ[j']? = some k → j = j' := by
    intro j j' k hj hj'
    obtain ⟨h1, h2⟩ := List.getElem?_eq_some_iff.1 hj
    obtain ⟨h3, h4⟩ := List.getElem?_eq_some_iff.1 hj'
    exact (List.getElem_inj hnd).1 (h2.trans h4.symm)
  have sigAt : ∀ {q : Nat}, q < τ.length → τ[q]? = some (sig τ base q) := fun {q} hq => by
    simp only [sig, if_pos hq]
    simp [List.getD, List.getElem?_eq_getElem hq]
  have sigIff : ∀ {j k q : Nat}, τ[j]? = some k → q < o.n → (sig τ base q = k ↔ q = j) := by
    intro j k q hj hq
    have hjl : j < τ.length := (List.getElem?_eq_some_iff.1 hj).1
    constructor
    · intro e
      by_cases hql : q < τ.length
      · have := sigAt hql; rw [e] at this; exact tInj this hj
      · exfalso
        simp only [sig, if_neg hql] at e
        exact hb q hq (e ▸ hτ k (List.mem_of_getElem? hj))
    · rintro rfl
      have := sigAt hjl
      rw [hj] at this; exact (Option.some.inj this).symm
  have sigOut : ∀ {q k : Nat}, k ∉ τ → sig τ base q = k → keepW τ wr q = true := by
    intro q k hk e
    unfold keepW
    by_cases hql : q < τ.length
    · exfalso; have := sigAt hql; rw [e] at this; exact hk (List.mem_of_getElem? this)
    · have : Nat.blt q τ.length = false := by
        cases hq : Nat.blt q τ.length with
        | false => rfl
        | true => exact absurd (by simpa using hq) hql
      rw [this]; rfl
  have keepIn : ∀ {j k : Nat}, τ[j]? = some k → keepW τ wr j = wr.contains j := by
    intro j k hj
    have hjl : j < τ.length := (List.getElem?_eq_some_iff.1 hj).1
    unfold keepW
    have : Nat.blt j τ.length = true := by simpa using hjl
    rw [this]; rfl
  have killIn : ∀ {j k : Nat}, τ[j]? = some k → ((wr.filter fun j => Nat.blt j τ.length).map fun j => τ.getD j 0).contains k = wr.contains j := by
    intro j k hj
    have hjl : j < τ.length := (List.getElem?_eq_some_iff.1 hj).1
    rw [Bool.eq_iff_iff]
    simp only [List.contains_iff_mem, List.mem_map, List.mem_filter, Nat.blt_eq]
    constructor
    · rintro ⟨q, ⟨h1, h2⟩, h3⟩
      have h4 : τ[q]? = some k := by rw [← h3]; simp [List.getD, List.getElem?_eq_getElem h2]
      rw [← tInj h4 hj]; exact h1
    · intro hw
      exact ⟨j, ⟨hw, hjl⟩, getD_of hj⟩
  have killOut : ∀ {k : Nat}, k ∉ τ → ((wr.filter fun j => Nat.blt j τ.length).map fun j => τ.getD j 0).contains k = false := by
    intro k hk
    cases hc : ((wr.filter fun j => Nat.blt j τ.length).map fun j => τ.getD j 0).contains k with
    | false => rfl
    | true =>
      exfalso
      simp only [List.contains_iff_mem, List.mem_map, List.mem_filter, Nat.blt_eq] at hc
      obtain ⟨q, ⟨_, h2⟩, h3⟩ := hc
      refine hk ?_
      have h4 : τ[q]? = some k := by rw [← h3]; simp [List.getD, List.getElem?_eq_getElem h2]
      exact List.mem_of_getElem? h4
  refine ⟨?_, ?_⟩
  · funext k
    show (match look (o.live.map fun p => (sig τ base p.1, p.2)) k with
      | some t => some t
      | none => if τ.contains k = true then none else live k) = (match look ((o.live.filter fun p => keepW τ wr p.1).map fun p => (sig τ base p.1, p.2)) k with
      | some t => some t
      | none => if ((wr.filter fun j => Nat.blt j τ.length).map fun j => τ.getD j 0).contains k = true then none else live k)
    by_cases hk : k ∈ τ
    · obtain ⟨j, hj⟩ := List.mem_iff_getElem?.1 hk
      have e1 : look (o.live.map fun p => (sig τ base p.1, p.2)) k = look o.live j := by
        have := look_at (f := fun x : Ow => x) (σ := sig τ base) (l := o.live) (k := k) (j := j) (fun p hp => sigIff hj (hl p hp))
        rw [this]; cases look o.live j <;> rfl
      rw [e1, killIn hj, if_pos (show τ.contains k = true by simpa using hk)]
      by_cases hw : wr.contains j = true
      · have e2 : look ((o.live.filter fun p => keepW τ wr p.1).map fun p => (sig τ base p.1, p.2)) k = look (o.live.map fun p => (sig τ base p.1, p.2)) k := look_keep (f := fun x : Ow => x) (fun p hp e => by
          have := (sigIff hj (hl p hp)).1 e
          rw [this, keepIn hj]; exact hw)
        rw [e2, e1, if_pos hw]
      · have hw' : wr.contains j = false := by simpa using hw
        have e2 : look ((o.live.filter fun p => keepW τ wr p.1).map fun p => (sig τ base p.1, p.2)) k = none := look_drop (f := fun x : Ow => x) (fun p hp e => by
          have := (sigIff hj (hl p hp)).1 e
          rw [this, keepIn hj]; exact hw')
        rw [e2, hw', (h j k hj hw').2]
        cases look o.live j <;> rfl
    · have e2 : look ((o.live.filter fun p => keepW τ wr p.1).map fun p => (sig τ base p.1, p.2)) k = look (o.live.map fun p => (sig τ base p.1, p.2)) k := look_keep (f := fun x : Ow => x) (fun p hp e => sigOut hk e)
      rw [e2, killOut hk]
      have : τ.contains k = false := by simpa using hk
      rw [this]
  · funext k
    simp only [Eff.bv, Out.eff, Out.effW]
    by_cases hk : k ∈ τ
    · obtain ⟨j, hj⟩ := List.mem_iff_getElem?.1 hk
      have e1 : look (o.bx.map fun p => (sig τ base p.1, p.2.map (Z1.exp (sig τ base)))) k = (look o.bx j).map fun cs => cs.map (Z1.exp (sig τ base)) :=
        look_at (f := fun cs : List Z1 => cs.map (Z1.exp (sig τ base))) (σ := sig τ base) (l := o.bx) (k := k) (j := j) (fun p hp => sigIff hj (hx p hp))
      rw [e1]
      by_cases hw : wr.contains j = true
      · have e2 : look ((o.bx.filter fun p => keepW τ wr p.1).map fun p => (sig τ base p.1, p.2.map (Z1.exp (sig τ base)))) k = look (o.bx.map fun p => (sig τ base p.1, p.2.map (Z1.exp (sig τ base)))) k := look_keep (f := fun cs : List Z1 => cs.map (Z1.exp (sig τ base))) (fun p hp e => by
          have := (sigIff hj (hx p hp)).1 e
          rw [this, keepIn hj]; exact hw)
        rw [e2, e1]
      · have hw' : wr.contains j = false := by simpa using hw
        have e2 : look ((o.bx.filter fun p => keepW τ wr p.1).map fun p => (sig τ base p.1, p.2.map (Z1.exp (sig τ base)))) k = none := look_drop (f := fun cs : List Z1 => cs.map (Z1.exp (sig τ base))) (fun p hp e => by
          have := (sigIff hj (hx p hp)).1 e
          rw [this, keepIn hj]; exact hw')
        rw [e2]
        have hs := (h j k hj hw').1
        cases hc : look o.bx j with
        | some cs => rw [hc] at hs; simp only [Option.map_some] at hs ⊢; exact hs.symm
        | none =>
          rw [hc] at hs
          simp only [Option.map_none] at hs ⊢
    · have e2 : look ((o.bx.filter fun p => keepW τ wr p.1).map fun p => (sig τ base p.1, p.2.map (Z1.exp (sig τ base)))) k = look (o.bx.map fun p => (sig τ base p.1, p.2.map (Z1.exp (sig τ base)))) k := look_keep (f := fun cs : List Z1 => cs.map (Z1.exp (sig τ base))) (fun p hp e => sigOut hk e)
      rw [e2]
theorem SameW.local {live live' : Nat → Option Ow} {bx bx' : Nat → Option (List Z1)} {τ wr : List Nat} {base : Nat} {o : Out} (hk : ∀ k ∈ τ, live k = live' k ∧ bx k = bx' k) : SameW live bx τ base o wr = SameW live' bx' τ base o wr := by
  refine propext ⟨fun h j k hj hw => ?_, fun h j k hj hw => ?_⟩
  · obtain ⟨q1, q2⟩ := hk k (List.mem_of_getElem? hj)
    rw [← q1, ← q2]; exact h j k hj hw
  · obtain ⟨q1, q2⟩ := hk k (List.mem_of_getElem? hj)
    rw [q1, q2]; exact h j k hj hw

noncomputable def callZ (P : Program) (base : Nat) (ch : Option Ch) (live : Nat → Option Ow) (bx : Nat → Option (List Z1)) (ev : Operand → Option V1) : Op → Option (Option (Stp × Nat))
  | .call ⟨.value fv, args, _⟩ => match ev fv with
    | some (.c (.fn f ps)) => some (match ch with
      | some (.call τ nk out) => (callIn τ nk live bx ev args.toList ps).map fun inn => (⟨out.val.exp (sig τ base), out.eff τ base, τ, cq (FnOK P f inn out)⟩, out.n)
      | some (.callR τ nk out) => (callIn τ nk live bx ev args.toList ps).bind fun inn => match inn.live, out.live with
        | [], [] => if out.bx.all (fun p => p.1.blt τ.length) then some (⟨out.val.exp (sig τ base), Eff.no, τ, cq (FnOK P f inn out ∧ AllS bx (out.eff τ base).put)⟩, out.n) else none
        | _, _ => none
      | some (.callW τ nk out wr) => (callIn τ nk live bx ev args.toList ps).map fun inn => (⟨out.val.exp (sig τ base), out.effW τ base wr, τ, cq (FnOK P f inn out ∧ SameW live bx τ base out wr)⟩, out.n)
      | _ => none)
    | _ => none
  | _ => none

noncomputable def extZ (sl : Nat → Option Z) : Op → Option Stp
  | .extract (.tmp t) i => match sl t with
    | some (.tup vs) => (vs[i]?).map fun v => ⟨.one v, Eff.no, [], none⟩
    | _ => none
  | .move (.tmp t) => match sl t with
    | some (.tup vs) => some ⟨.tup vs, Eff.no, [], none⟩
    | _ => none
  | _ => none

noncomputable def opZ (P : Program) (tab : Tab) (base : Nat) (ch : Option Ch) (s : S) (op : Op) : Option (Stp × Nat) :=
  match callZ P base ch s.live s.bx s.ev op with
  | some r => r
  | none => (match extZ s.sl op with
    | some st => chosen ch st
    | none => match newOp tab base (isRow ch) (isHd ch) s.live s.bx s.ev op with
      | some r => r.bind (chosen ch)
      | none => (effOp tab base s.live s.bx s.ev op).bind (chosen ch)).map fun st => (st, 1)

section
variable {P : Program} {tab : Tab} {E : Ent} {g : G} {s : S} {a : Act} {W : World}

theorem look_und {t e : TypeId} (ht : TabOk P tab) (h : (tlook tab t).map TyI.ty = some (.slice e)) : P.underlying t = some (.slice e) := look_und' ht h

theorem effOp_wp (ht : TabOk P tab) (h : AI P E g s a W) {o : Oper} {st : Stp} {base : Nat} {n' : Nat → Prop} (hz : effOp tab base s.live s.bx s.ev o.op = some st) (hC : holds st.C)
    (hd : ∀ d, o.dst = some d → d < E.nt) (hb : ¬ s.us base) (hm : ∀ k, s.us k → n' k) (hn : n' base) {Q : Exit → Act → World → Prop} :
    o.wp P a W (fun a' W' => ∃ g', AI P E g' (s.go o.dst st.z st.e n') a' W') Q := by
  have pure : ∀ {op : Op} {rd : List Nat} {p : V1 × Option CP} , o.op = op → valOp tab s.bx s.ev op = some p → (⟨.one p.1, Eff.no, rd, p.2⟩ : Stp) = st →
      o.wp P a W (fun a' W' => ∃ g', AI P E g' (s.go o.dst st.z st.e n') a' W') Q := by
    rintro op rd ⟨z, C⟩ ho hv rfl
    exact valOp_wp ht h (by rw [ho]; exact hv) hC hd hm
  unfold effOp at hz
  split at hz
  · -- alloc
    rename_i t ho
    obtain ⟨i, hi, rfl⟩ := omap hz
    obtain ⟨j, v, h1, h2, h3, h4, h5⟩ := zero_rd (W := W) (g := g) (ht t i hi)
    obtain ⟨g', h'⟩ := h.new (dst := o.dst) (vs := v.cells) (ty := t) (by cases i.zero with
      | nil => rfl
      | cons z r => cases r with
        | nil => rfl
        | cons w r => exact isRun_two _ _ _) hd hb hm hn h5 (d_below _ _)
    unfold Oper.wp execOp
    simp only [ho, Instr.alloc, zeroValue, typeInfo, newVar, newRow, h1, h3, Sem.run_bind, Sem.run_pure, Result.andThen_ok]
    simp [h1, h3]
    exact ⟨g', h'⟩
  · -- box
    rename_i t x ho
    obtain ⟨v, hv, hz⟩ := obind hz
    split at hz
    case isFalse => cases hz
    rename_i hplv
    cases hz
    obtain ⟨q1, q2⟩ := h.ev hv
    obtain ⟨g', h'⟩ := h.new (dst := o.dst) (vs := (a.eval x).cells) (ty := t) (plain_run hplv) hd hb hm hn (cells_rd q1) (cells_below q2)
    unfold Oper.wp execOp
    simp [ho, Instr.box, newVar, newRow]
    exact ⟨g', h'⟩
  · -- store
    rename_i t x y ho
    split at hz
    · rename_i i id off v hi hx hy
      obtain ⟨cs, hbx, hz⟩ := obind hz
      split at hz
      · rename_i hlen
        obtain ⟨hlen, hpl1, hpl2⟩ := hlen
        cases hz
        have hC : off + i.size ≤ cs.length := hC
        obtain ⟨q1, q2⟩ := h.ev hx
        obtain ⟨p1, p2⟩ := h.ev hy
        have hp : a.eval x = .pointer (some ⟨g.ρ id, off, none⟩) := q1
        have hcl := cells_rd p1
        obtain ⟨vs, ty, hh, hvs, hr⟩ := (h.h.box id cs (bc_of hbx (plain_run hpl1))).1.plain hpl1
        have hvl : (a.eval y).cells.size = i.size := by have := hcl.1; simp at this; omega
        have hone : ∀ u ∈ (a.eval y).cells.toList, u.oneCell' = true := by
          intro u hu
          obtain ⟨j, hj⟩ := List.mem_iff_getElem?.1 hu
          have hjl : j < v.cells.length := by
            rcases Nat.lt_or_ge j v.cells.length with q | q
            · exact q
            · simp [List.getElem?_eq_none (show (a.eval y).cells.toList.length ≤ j by rw [hcl.1]; exact q)] at hj
          have := hcl.2 j u _ hj (List.getElem?_eq_getElem hjl)
          cases hz : v.cells[j] with
          | d x => rw [hz] at this; exact RD.one this
          | own l sz xs => rw [hz] at this; exact RD.one this.1
          | ptr id off => rw [hz] at this; rw [show u = _ from this]; rfl
          | nn T xs => rw [hz] at this; exact RD.one this.1
          | pix id off n i => rw [hz] at this; rw [this.2]; rfl
          | row l T => rw [hz] at this; obtain ⟨_, _, _, _, e⟩ := this; rw [e]; rfl
          | pel l T i off => rw [hz] at this; obtain ⟨_, _, _, _, _, e⟩ := this; rw [e]; rfl
          | run T xs => rw [hz] at this; exact this.elim
          | mref id => rw [hz] at this; rw [show u = _ from this]; rfl
          | mp k k' l => rw [hz] at this; exact this.elim
          | hd id off n c => rw [hz] at this; obtain ⟨_, e, _⟩ := this; rw [e]; rfl
          | mpp k l c => rw [hz] at this; exact this.elim
          | fn f ps => rw [hz] at this; rw [show u = _ from this]; rfl
          | itr m a b c => rw [hz] at this; exact this.elim
          | el cs => rw [hz] at this; obtain ⟨b, o, rfl, _⟩ := this; rfl
        have hst := run_storeCells_at (P := P) (g.ρ id) off ty (a.eval y).cells.toList 0 vs W hh (by simp; omega) hone
        have h' := h.write (dst := o.dst) (cs := cs) hpl1 hpl2 (vs' := (vs.toList.take off ++ (a.eval y).cells.toList ++ vs.toList.drop (off + i.size)).toArray) (cs' := cs.take off ++ v.cells ++ cs.drop (off + i.size)) hd hm hbx (by
          have e9 : vs.toList.take off ++ (a.eval y).cells.toList ++ vs.toList.drop (off + i.size) = ((vs.toList.take cs.length).take off ++ (a.eval y).cells.toList ++ (vs.toList.take cs.length).drop (off + i.size)) ++ vs.toList.drop cs.length := by
            rw [List.take_take, Nat.min_eq_left (by omega), List.append_assoc (vs.toList.take off ++ (a.eval y).cells.toList), ← List.drop_append_of_le_length (by simp; omega), List.take_append_drop]
          rw [e9]
          have hps : (vs.toList.take cs.length).length = cs.length := by simp; omega
          generalize vs.toList.take cs.length = pre at *
          refine RCs.pre_of ⟨by simp; omega, fun j u d hj hd => ?_⟩
          by_cases h1 : j < off
          · rw [List.append_assoc, List.getElem?_append_left (by simp; omega), List.getElem?_take_of_lt h1] at hj
            rw [List.append_assoc, List.getElem?_append_left (by simp; omega), List.getElem?_take_of_lt h1] at hd
            exact hr.2 j u d hj hd
          · by_cases h2 : j < off + i.size
            · rw [List.append_assoc, List.getElem?_append_right (by simp; omega), List.getElem?_append_left (by simp; omega)] at hj
              rw [List.append_assoc, List.getElem?_append_right (by simp; omega), List.getElem?_append_left (by simp; omega)] at hd
              have e1 : j - (List.take off pre).length = j - off := by simp; omega
              have e2 : j - (List.take off cs).length = j - off := by simp; omega
              rw [e1] at hj
              rw [e2] at hd
              exact hcl.2 _ u d hj hd
            · rw [List.getElem?_append_right (by simp; omega), List.getElem?_drop] at hj
              rw [List.getElem?_append_right (by simp; omega), List.getElem?_drop] at hd
              have e1 : off + i.size + (j - (List.take off pre ++ (a.eval y).cells.toList).length) = j := by simp; omega
              have e2 : off + i.size + (j - (List.take off cs ++ v.cells).length) = j := by simp; omega
              rw [e1] at hj
              rw [e2] at hd
              exact hr.2 j u d hj hd) (fun z hz => by
          rcases List.mem_append.1 hz with h1 | h1
          · rcases List.mem_append.1 h1 with h1 | h1
            · exact (h.boxLow id cs hbx).2 z (List.mem_of_mem_take h1)
            · exact cells_below p2 z h1
          · exact (h.boxLow id cs hbx).2 z (List.mem_of_mem_drop h1))
        have e0 : off + 0 + (a.eval y).cells.toList.length = off + i.size := by simp; omega
        rw [e0, Nat.add_zero] at hst
        have hrun : (Instr.storeAt t (a.eval x) (a.eval y)).run P W = .ok () (W.setRow (g.ρ id) (vs.toList.take off ++ (a.eval y).cells.toList ++ vs.toList.drop (off + i.size)).toArray) := by
          rw [hp]
          simp only [Instr.storeAt, Instr.sureAddr, storeVar, Sem.run_bind, Sem.run_pure, Result.andThen_ok, (ht t i hi).size, hvl]
          simpa using hst
        unfold Oper.wp execOp
        simp only [ho, Sem.run_bind, hrun, Sem.run_pure, Result.andThen_ok]
        exact ⟨g, h'⟩
      · cases hz
    · cases hz
  · -- buildSlice
    rename_i t len ps ho
    split at hz
    · rename_i e hty
      split at hz
      · rename_i i l hi hp
        split at hz
        · rename_i T hk
          split at hz
          · rename_i hcond
            obtain ⟨cs, hf, hz⟩ := obind hz
            obtain ⟨xs, hxs, rfl⟩ := omap hz
            exact build_wp ht h ho hty hi hp hcond.1 hcond.2.1 hcond.2.2 hf hxs hd hb hm hn
          · cases hz
        · cases hz
      · cases hz
    · cases hz
  · -- makeSlice
    rename_i t x y ho
    split at hz
    · rename_i e n m hty hx hy
      split at hz
      · rename_i i hi
        split at hz
        · rename_i T hk
          split at hz
          · rename_i hcond
            obtain ⟨xs, hxs, rfl⟩ := omap hz
            obtain ⟨⟨rfl, h0⟩, ⟨hs1, hs2⟩, hpos, hTs⟩ := hcond
            exact make_wp ht h ho hty hi hx hy h0 hs1 hs2 hpos hTs hxs hd hb hm hn
          · cases hz
        · cases hz
      · cases hz
    · cases hz
  · -- convert
    rename_i src dst x ho
    split at hz
    · rename_i e e' h1 h2
      split at hz
      · rename_i hee
        subst hee
        split at hz
        · rename_i l T xs h8 hv
          split at hz
          · rename_i e2 hlv
            split at hz
            · rename_i he2
              subst he2
              cases hz
              have hu1 := look_und ht h1
              obtain ⟨i8, d8, _, _, hu8, hf8⟩ := und_of ht h8
              cases hf8
              obtain ⟨q1, q2⟩ := (h.ev hv).1
              have hown := h.h.own l _ hlv
              rw [q2] at hown
              have hblk : ∀ b, (a.eval x).ownBlock = some b → ∃ l0 e0, some l = some l0 ∧ s.live l0 = some e0 ∧ (g.ω l0).ownBlock = some b := fun b hb1 => ⟨l, _, rfl, hlv, by rw [q2]; exact hb1⟩
              generalize hvx : a.eval x = v at *
              rcases hown with ⟨_, hk0⟩ | ⟨g0, n, cap, cur, fr, rfl, hg0, hnc, hcm, hcs, hf, hful, hfr, _⟩
              · exact absurd rfl hk0
              · have hn1 : n = cap := hful (by simp)
                subst hn1
                have hsh : W.shape? g0 = some (e2, cur.size) := by unfold World.shape?; rw [hg0]
                obtain ⟨fr', hW'⟩ : ∃ fr', (W.freeze ⟨g0, cur.size, none⟩ 1).heap[g0]? = some (.cells cur e2 fr') := by
                  unfold World.freeze
                  rw [if_neg (by decide)]
                  simp only [Array.getElem?_modify, if_true, hg0, Option.map_some]
                  exact ⟨_, rfl⟩
                have hg : Goes W (W.freeze ⟨g0, cur.size, none⟩ 1) (fun b => b = g0) := by
                  unfold World.freeze
                  rw [if_neg (by decide)]
                  exact ⟨rfl, rfl, rfl, by simp, fun b _ hne => by simp [Array.getElem?_modify, Ne.symm hne]⟩
                obtain ⟨g', h'⟩ := h.row (dst := o.dst) (kill := some l) (Ch := fun b => b = g0) (v := .slice (some ⟨g0, 0, none⟩) n n) (e := ⟨e2, 1⟩) (n := n) (T := T) (xs := xs) (base := base) (n' := n') hd hb hm hn hg
                  (fun b hb1 => hblk b (by rw [hb1]; rfl)) (fun b o hb1 _ => by subst hb1; simp only [World.cell?, hW', hg0]) (show (1 : Nat) ≠ 2 by decide)
                  (.inr ⟨g0, n, cur, fr', rfl, hW', Nat.le_refl _, hcm, hcs, .inl rfl, hf, fun _ => rfl, .inr rfl⟩) (fun hk => q1.keep hk)
                unfold Oper.wp execOp
                simp [ho, hvx, convert, run_underlying hu1, run_underlying hu8, markStringish, hsh]
                exact ⟨g', h'⟩
            · cases hz
          · cases hz
        · cases hz
      · cases hz
    · obtain ⟨p, hp, e⟩ := omap hz
      exact pure ho hp e
  · -- append
    rename_i args ats ho
    obtain ⟨args⟩ := args
    obtain ⟨ats⟩ := ats
    simp only at hz
    split at hz
    · rename_i x y t t' 
      split at hz
      · rename_i htt
        subst htt
        split at hz
        · rename_i e vx T' ys hty hx hy
          split at hz
          · rename_i i hi
            obtain ⟨vy, hvy, hyd⟩ := obind hy
            have hu := look_und ht hty
            have hry : RD W g.F (a.eval y) (X.sl T' ys).raw := V1.asD_rd (h.ev hvy).1 hyd
            have fin : ∀ {z : Z} {ef : Eff}, (∃ v' W' g', (Builtin.append_ #[t, t] o.type #[a.eval x, a.eval y]).run P W = .ok v' W' ∧ AI P E g' (s.go o.dst z ef n') (a.put o.dst v') W') →
                o.wp P a W (fun a' W' => ∃ g', AI P E g' (s.go o.dst z ef n') a' W') Q := by
              rintro z ef ⟨v', W', g', r1, r2⟩
              unfold Oper.wp execOp
              simp [ho, resolve, invoke, builtin, r1]
              exact ⟨g', r2⟩
            split at hz
            · rename_i l T xs
              split at hz
              · rename_i e' k zs hlv hzs
                split at hz
                · rename_i hl
                  cases hz
                  have hC : xs.length + zs.length ≤ maxLen ∧ (xs.length + zs.length) * i.bytes ≤ 140737488355328 := hC
                  obtain ⟨q1, q2⟩ := (h.ev hx).1
                  have hle := hl.2
                  subst hle
                  exact fin (h.append (kill := some l) (T := T) hu (ht _ i hi) hl.1.1 hl.1.2 hd hb hm hn q1 (q2 ▸ h.h.own l _ hlv) (fun b hb1 => ⟨l, _, rfl, hlv, by rw [q2]; exact hb1⟩) (cast_rd hry hzs) hC.1 hC.2)
                · cases hz
              · cases hz
            · split at hz
              · rename_i hcond
                cases hz
                have hC : ys.length ≤ maxLen ∧ ys.length * i.bytes ≤ 140737488355328 := hC
                have hn0 : a.eval x = .slice none 0 0 := by
                  have q1 : RD W g.F (a.eval x) (.sl 0 _) := (h.ev hx).1
                  exact (RD.nil_any q1 0).1
                have := h.append (kill := none) (k0 := 0) (v := .slice none 0 0) (T := T') (xs := []) (dst := o.dst) (ty := o.type) hu (ht e i hi) hcond.1 hcond.2 hd hb hm hn (.slNil _) (.inl ⟨rfl, (show (0 : Nat) ≠ 1 by decide)⟩) (fun b hb1 => by cases hb1) hry (by simpa using hC.1) (by simpa using hC.2)
                exact fin (by rw [hn0]; simpa using this)
              · split at hz
                · rename_i hun
                  subst hun
                  cases hz
                  have hn0 : a.eval x = .slice none 0 0 := by
                    have q1 : RD W g.F (a.eval x) (.sl 0 _) := (h.ev hx).1
                    exact (RD.nil_any q1 0).1
                  have hn1 : a.eval y = .slice none 0 0 := by
                    have q1 : RD W g.F (a.eval y) (.sl 0 _) := hry
                    exact (RD.nil_any q1 0).1
                  obtain ⟨j, hj, _⟩ := (ht e i hi).info
                  have hr := append_none (P := P) (W := W) t o.type e j hu hj none 0 0 (Nat.le_refl _)
                  refine fin ⟨.slice none 0 0, W, g, by rw [hn0, hn1]; exact hr, h.val hd hm ?_ trivial⟩
                  show RD W g.F _ _
                  exact .slNil _
                · cases hz
            · cases hz
          · cases hz
        · cases hz
      · cases hz
    · cases hz
  · rename_i ho; obtain ⟨p, hp, e⟩ := omap hz; exact pure ho hp e
  · rename_i ho; obtain ⟨p, hp, e⟩ := omap hz; exact pure ho hp e
  · rename_i ho; obtain ⟨p, hp, e⟩ := omap hz; exact pure ho hp e
  · cases hz
  · obtain ⟨p, hp, e⟩ := omap hz; exact pure rfl hp e
end
end Zed
namespace Zed
open Go
set_option linter.unusedVariables false
set_option linter.unusedSimpArgs false

section
variable {P : Program} {tab : Tab} {E : Ent} {g : G} {s : S} {a : Act} {W : World}

theorem chosen_wp {ch : Option Ch} {st0 st : Stp} (h : chosen ch st0 = some st) (hC : holds st.C) : holds st0.C ∧ st.e = st0.e ∧ (∀ (W : World) (g : G) (v : Value), RZ W g v st0.z → RZ W g v st.z) ∧ ∀ n, st0.z.below n → st.z.below n := by
  unfold chosen at h
  split at h
  · split at h
    · rename_i v _ u hz
      cases h
      cases hc : st0.C with
      | none =>
        have hC' : holds (match st0.C with | none => cq (u = v) | some c => cq (c.p ∧ u = v)) := hC
        rw [hc] at hC'
        have e : u = v := hC'
        subst e
        exact ⟨trivial, rfl, fun W g v q => by rw [hz] at q; exact q, fun n q => by rw [hz] at q; exact q⟩
      | some c =>
        have hC' : holds (match st0.C with | none => cq (u = v) | some c => cq (c.p ∧ u = v)) := hC
        rw [hc] at hC'
        have e : c.p ∧ u = v := hC'
        obtain ⟨h1, rfl⟩ := e
        exact ⟨h1, rfl, fun W g v q => by rw [hz] at q; exact q, fun n q => by rw [hz] at q; exact q⟩
    · cases h
  · split at h
    · rename_i o n i _ id off hz
      cases h
      have key : holds st0.C ∧ off = o + i ∧ i < n := by
        cases hc : st0.C with
        | none =>
          have hC' : holds (match st0.C with | none => cq (off = o + i ∧ i < n) | some c => cq (c.p ∧ off = o + i ∧ i < n)) := hC
          rw [hc] at hC'
          exact ⟨trivial, hC'⟩
        | some c =>
          have hC' : holds (match st0.C with | none => cq (off = o + i ∧ i < n) | some c => cq (c.p ∧ off = o + i ∧ i < n)) := hC
          rw [hc] at hC'
          exact hC'
      obtain ⟨h1, h2, h3⟩ := key
      refine ⟨h1, rfl, fun W g v q => ?_, fun n q => ?_⟩
      · rw [hz] at q
        have q : v = .pointer (some ⟨g.ρ id, off, none⟩) := q
        exact ⟨h3, by rw [q, h2]⟩
      · rw [hz] at q; exact q
    · cases h
  · cases h; exact ⟨hC, rfl, fun _ _ _ q => q, fun _ q => q⟩

/-- The slot told otherwise. -/
theorem AI.rez {dst : Option Nat} {z z' : Z} {e : Eff} {n : Nat → Prop} (h : AI P E g (s.go dst z e n) a W) (h1 : ∀ v, RZ W g v z → RZ W g v z') (h2 : z.below n → z'.below n) : AI P E g (s.go dst z' e n) a W := by
  cases dst with
  | none => exact h
  | some d =>
    have h0 : (s.go (some d) z e n).sl d = some z := setN_same _ _ _
    have hne : ∀ t, t ≠ d → (s.go (some d) z' e n).sl t = (s.go (some d) z e n).sl t := fun t ht => by
      show setN s.sl d _ t = setN s.sl d _ t
      rw [setN_ne _ _ ht, setN_ne _ _ ht]
    exact {
      defers := h.defers, tsz := h.tsz, liveLow := h.liveLow, boxLow := h.boxLow, pkLow := h.pkLow, pin := h.pin, b := h.b, h := h.h, r := h.r
      slots := fun t zt ht => by
        by_cases hd : t = d
        · subst hd
          have ht : setN s.sl t (some z') t = some zt := ht
          rw [setN_same] at ht; cases ht
          obtain ⟨v, q1, q2⟩ := h.slots t z h0
          exact ⟨v, q1, h1 v q2⟩
        · rw [hne t hd] at ht; exact h.slots t zt ht
      low := fun t zt ht => by
        by_cases hd : t = d
        · subst hd
          have ht : setN s.sl t (some z') t = some zt := ht
          rw [setN_same] at ht; cases ht
          exact h2 (h.low t z h0)
        · rw [hne t hd] at ht; exact h.low t zt ht }

noncomputable def used (us : Nat → Prop) (base n : Nat) : Nat → Prop := fun k => us k ∨ (base ≤ k ∧ k < base + n)

theorem opZ_wp (ht : TabOk P tab) (h : AI P E g s a W) {o : Oper} {st : Stp} {n base : Nat} {ch : Option Ch} (hz : opZ P tab base ch s o.op = some (st, n)) (hC : holds st.C)
    (hd : ∀ d, o.dst = some d → d < E.nt) (hb : ∀ j, j < n → ¬ s.us (base + j)) {Q : Exit → Act → World → Prop} :
    o.wp P a W (fun a' W' => ∃ g', AI P E g' (s.go o.dst st.z st.e (used s.us base n)) a' W') Q := by
  unfold opZ at hz
  split at hz
  · -- a call
    rename_i r hc
    subst hz
    unfold callZ at hc
    split at hc
    · rename_i fv args ats ho
      split at hc
      · rename_i f ps hfv
        simp only [Option.some.injEq] at hc
        have efv : a.eval fv = .func (.func f) #[] (ps.map fun p => Value.pointer (some ⟨g.ρ p.1, p.2, none⟩)).toArray := (h.ev hfv).1
        have hex : (execOp a.eval o).run P W = (callFunc f (args.toList.map a.eval ++ ps.map fun p => Value.pointer (some ⟨g.ρ p.1, p.2, none⟩)).toArray).run P W := by
          unfold execOp
          simp [ho, resolve, efv, Deferred.ofValue, invoke]
          congr 2
          apply Array.ext' 
          simp
        split at hc
        · rename_i τ nk out
          obtain ⟨inn, hin, e⟩ := omap hc
          simp only [Prod.mk.injEq] at e
          obtain ⟨rfl, rfl⟩ := e
          have run := h.call (dst := o.dst) (n' := used s.us base out.n) hin hC hd hb (fun k hk => .inl hk) (fun j hj => .inr ⟨by omega, by omega⟩)
          unfold Oper.wp
          rw [hex]
          rcases run with ⟨q1, q2⟩ | ⟨v, W', q1, q2⟩
          · rw [q1]
            refine Calls.mono q2 fun e W' he => ?_
            obtain ⟨v, rfl, hh⟩ := he
            exact hh
          · rw [q1]; exact q2
        · rename_i τ nk out
          obtain ⟨inn, hin, e⟩ := obind hc
          split at e
          · rename_i hil hol
            split at e
            case isFalse => cases e
            simp only [Option.some.injEq, Prod.mk.injEq] at e
            obtain ⟨rfl, rfl⟩ := e
            obtain ⟨hf, hS⟩ := hC
            have run := h.call (dst := o.dst) (n' := used s.us base out.n) hin hf hd hb (fun k hk => .inl hk) (fun j hj => .inr ⟨by omega, by omega⟩)
            have hsame : s.go o.dst (out.val.exp (sig τ base)) (out.eff τ base) (used s.us base out.n) = s.go o.dst (out.val.exp (sig τ base)) Eff.no (used s.us base out.n) := by
              simp only [S.go, S.mk.injEq, true_and, and_true]
              refine ⟨?_, ?_⟩
              · funext l
                simp only [Eff.lv, Out.eff, hol, List.map_nil, look, Eff.no]
                by_cases hl : l ∈ τ
                · have : s.live l = none := by
                    unfold callIn at hin
                    split at hin
                    case h_2 => cases hin
                    rename_i vs qs L B hvs hqs hLB
                    split at hin
                    case isFalse => cases hin
                    cases hin
                    have hil : L = [] := hil
                    subst hil
                    exact impH_nolive hLB l hl
                  simp [hl, this]
                · simp [hl]
              · funext i
                simp only [Eff.bv, Eff.no, look]
                cases hp : look (out.eff τ base).put i with
                | none => rfl
                | some cs => exact (allS_spec hS _ (look_mem hp)).symm
            rw [hsame] at run
            unfold Oper.wp
            rw [hex]
            rcases run with ⟨q1, q2⟩ | ⟨v, W', q1, q2⟩
            · rw [q1]
              refine Calls.mono q2 fun e W' he => ?_
              obtain ⟨v, rfl, hh⟩ := he
              exact hh
            · rw [q1]; exact q2
          · cases e
        · rename_i τ nk out wr
          obtain ⟨inn, hin, e⟩ := omap hc
          simp only [Prod.mk.injEq] at e
          obtain ⟨rfl, rfl⟩ := e
          obtain ⟨hf, hS⟩ := hC
          have run := h.call (dst := o.dst) (n' := used s.us base out.n) hin hf hd hb (fun k hk => .inl hk) (fun j hj => .inr ⟨by omega, by omega⟩)
          have hok := hf.1
          simp only [Out.ok, Bool.and_eq_true, List.all_eq_true, Nat.blt_eq, Nat.ble_eq] at hok
          obtain ⟨⟨⟨⟨o1, o2⟩, o3⟩, o4⟩, o5⟩ := hok
          have hsame : s.go o.dst (out.val.exp (sig τ base)) (out.eff τ base) (used s.us base out.n) = s.go o.dst (out.val.exp (sig τ base)) (out.effW τ base wr) (used s.us base out.n) := by
            have hW : τ.Nodup ∧ (∀ k ∈ τ, s.us k) ∧ ∀ k ∈ τ, ∀ j cs, τ[j]? = some k → s.bx k = some cs → (look out.bx j).isSome := by
              unfold callIn at hin
              split at hin
              case h_2 => cases hin
              rename_i vs qs L B hvs hqs hLB
              split at hin
              case isFalse => cases hin
              rename_i hnd
              cases hin
              obtain ⟨i1, i2, i3⟩ := impH_spec hLB
              refine ⟨nodup_of hnd, fun k hk => ?_, fun k hk j cs hj hcs => ?_⟩
              · cases hbk : s.bx k with
                | some cs => exact (h.boxLow k cs hbk).1
                | none =>
                  cases hlk : s.live k with
                  | some e => exact h.liveLow k e hlk
                  | none => exact absurd hLB (impH_dead hbk hlk hk)
              · have hB := i3 j k (by simpa using hj) (Nat.zero_le _) cs hcs
                cases hBj : look B j with
                | none => rw [hBj] at hB; cases hB
                | some c' => exact o4 _ (look_mem hBj)
            obtain ⟨e1, e2⟩ := effW_same hW.1 hW.2.1 hb (fun p hp => o2 p hp) (fun p hp => (o3 p hp).1) hW.2.2 hS
            simp only [S.go, e1, e2]
          rw [hsame] at run
          unfold Oper.wp
          rw [hex]
          rcases run with ⟨q1, q2⟩ | ⟨v, W', q1, q2⟩
          · rw [q1]
            refine Calls.mono q2 fun e W' he => ?_
            obtain ⟨v, rfl, hh⟩ := he
            exact hh
          · rw [q1]; exact q2
        · cases hc
      · cases hc
    · cases hc
  · obtain ⟨st', hz1, e⟩ := omap hz
    simp only [Prod.mk.injEq] at e
    obtain ⟨rfl, rfl⟩ := e
    split at hz1
    · -- a part of a call's values
      rename_i st0 h0
      obtain ⟨c1, c2, c3, c4⟩ := chosen_wp hz1 hC
      rw [c2]
      refine Oper.wp_mono (K := fun a' W' => ∃ g', AI P E g' (s.go o.dst st0.z st0.e (used s.us base 1)) a' W') (fun a' W' ⟨g', q⟩ => ⟨g', q.rez (c3 W' g') (c4 _)⟩) ?_
      unfold extZ at h0
      split at h0
      · rename_i t i heq
        split at h0
        · rename_i vs hs
          obtain ⟨v, hv, rfl⟩ := omap h0
          obtain ⟨u, hu, us, e, hsz, hr⟩ := h.slots t _ hs
          have hlt : i < vs.length := (List.getElem?_eq_some_iff.1 hv).1
          have hus : us[i]? = some us[i] := Array.getElem?_eq_getElem (by omega)
          have hev : a.eval (.tmp t) = .tuple us := by simp [Act.eval, Array.getD_eq_getD_getElem?, hu, e]
          unfold Oper.wp execOp
          simp [heq, hev, Instr.extract, hus]
          exact ⟨g, h.val hd (fun k hk => .inl hk) (hr i _ v hus hv) (h.low t _ hs v (List.mem_of_getElem? hv))⟩
        · cases h0
      · rename_i t heq
        split at h0
        · rename_i vs hs
          cases h0
          obtain ⟨u, hu, hr⟩ := h.slots t _ hs
          have hev : a.eval (.tmp t) = u := by simp [Act.eval, Array.getD_eq_getD_getElem?, hu]
          unfold Oper.wp execOp
          simp [heq, hev]
          exact ⟨g, h.val hd (fun k hk => .inl hk) hr (h.low t _ hs)⟩
        · cases h0
      · cases h0
    · split at hz1
      · rename_i r hr
        obtain ⟨st0, h0, hch⟩ := obind hz1
        obtain ⟨c1, c2, c3, c4⟩ := chosen_wp hch hC
        rw [c2]
        refine Oper.wp_mono (K := fun a' W' => ∃ g', AI P E g' (s.go o.dst st0.z st0.e (used s.us base 1)) a' W') (fun a' W' ⟨g', q⟩ => ⟨g', q.rez (c3 W' g') (c4 _)⟩) ?_
        exact newOp_wp ht h (by rw [hr, h0]) c1 hd (by simpa using hb 0 (by omega)) (fun k hk => .inl hk) (.inr ⟨Nat.le_refl _, by omega⟩)
      · obtain ⟨st0, h0, hch⟩ := obind hz1
        obtain ⟨c1, c2, c3, c4⟩ := chosen_wp hch hC
        rw [c2]
        refine Oper.wp_mono (K := fun a' W' => ∃ g', AI P E g' (s.go o.dst st0.z st0.e (used s.us base 1)) a' W') (fun a' W' ⟨g', q⟩ => ⟨g', q.rez (c3 W' g') (c4 _)⟩) ?_
        exact effOp_wp ht h h0 c1 hd (by simpa using hb 0 (by omega)) (fun k hk => .inl hk) (.inr ⟨Nat.le_refl _, by omega⟩)

noncomputable def wantZ (ops : Array Oper) (sl : Nat → Option Z) (o : Oper) : Option Bool :=
  match o.guard with
  | none => some true
  | some (j, w) => match (ops[j]?).bind (·.dst) with
    | none => some false
    | some d => match sl d with
      | some (.one (.c (.d (.bool b)))) => some (b == w)
      | some .no => some false
      | _ => none

noncomputable def stpZ (P : Program) (tab : Tab) (ops : Array Oper) (base : Nat) (ch : Option Ch) (s : S) (o : Oper) : Option (Stp × Nat) :=
  match wantZ ops s.sl o with
  | some true => opZ P tab base ch s o.op
  | some false => some (⟨.no, Eff.no, [], none⟩, 0)
  | none => none

theorem wantZ_wanted {ops : Array Oper} (h : AI P E g s a W) {o : Oper} {b : Bool} (hw : wantZ ops s.sl o = some b) : Region.wanted o (yielded ops a.tmps) = b := by
  unfold wantZ at hw
  unfold Region.wanted
  split at hw
  · rename_i hg; cases hw; simp [hg]
  · rename_i j w hg
    simp only [hg]
    unfold yielded
    split at hw
    · rename_i hd; cases hw; simp [hd]
    · rename_i d hd
      split at hw
      · rename_i b' hs
        cases hw
        obtain ⟨v, hv, hr⟩ := h.slots d _ hs
        have hr' : RD W g.F v (.bool b') := hr
        cases hr'
        simp [hd, hv]
      · rename_i hs
        cases hw
        obtain ⟨v, hv, hr⟩ := h.slots d _ hs
        have hr' : v = undef := hr
        subst hr'
        simp [hd, hv, undef]
      · cases hw

theorem stpZ_wp (ht : TabOk P tab) (h : AI P E g s a W) {ops : Array Oper} {i : Nat} {o : Oper} (hi : ops[i]? = some o) {st : Stp} {n base : Nat} {ch : Option Ch} (hz : stpZ P tab ops base ch s o = some (st, n)) (hC : holds st.C)
    (hd : ∀ d, o.dst = some d → d < E.nt) (hb : ∀ j, j < n → ¬ s.us (base + j)) {Q : Exit → Act → World → Prop} :
    wpOp P ops Q i (fun a' W' => ∃ g', AI P E g' (s.go o.dst st.z st.e (used s.us base n)) a' W') a W := by
  unfold wpOp
  simp only [hi]
  unfold stpZ at hz
  split at hz
  · rename_i hw
    rw [if_pos (wantZ_wanted h hw)]
    exact .inl (opZ_wp ht h hz hC hd hb)
  · rename_i hw
    rw [if_neg (by rw [wantZ_wanted h hw]; simp)]
    cases hz
    exact ⟨g, h.val hd (fun k hk => .inl hk) rfl trivial⟩
  · cases hz
end
end Zed
