/- ZED, twelfth text: calls: what a function does, told with numbers of its own; and a call, in the caller's numbers. -/
import Derived.Test.YtakamchmiakicaaDoorZedKe
namespace Zed
open Go
set_option linter.unusedVariables false
set_option linter.unusedSimpArgs false

/-- What a function is handed: values, rows of its own, variables; numbers below n. -/
structure Inn where
  args : List V1
  live : List (Nat × Ow)
  bx : List (Nat × List Z1)
  n : Nat
/-- What it leaves. -/
structure Out where
  val : Z
  live : List (Nat × Ow)
  bx : List (Nat × List Z1)
  n : Nat

def Z1.lowB (n : Nat) : Z1 → Bool
  | .own l _ _ => l.blt n
  | .ptr id _ => id.blt n
  | .pix id _ _ _ => id.blt n
  | .row l _ => l.blt n
  | .pel l _ _ _ => l.blt n
  | .mref id => id.blt n
  | _ => true
def V1.lowB (n : Nat) : V1 → Bool
  | .c z => z.lowB n
  | .agg cs => cs.all (Z1.lowB n)
def Z.lowB (n : Nat) : Z → Bool
  | .one v => v.lowB n
  | .tup vs => vs.all (V1.lowB n)
  | .no => true
theorem Z1.low_of {n : Nat} {z : Z1} (h : z.lowB n = true) : z.below (· < n) := by
  cases z <;> simp_all [Z1.lowB, Z1.below]
theorem V1.low_of {n : Nat} {z : V1} (h : z.lowB n = true) : z.below (· < n) := by
  cases z with
  | c z => exact Z1.low_of h
  | agg cs => intro c hc; exact Z1.low_of (List.all_eq_true.1 h c hc)
theorem Z.low_of {n : Nat} {z : Z} (h : z.lowB n = true) : z.below (· < n) := by
  cases z with
  | one v => exact V1.low_of h
  | tup vs => intro c hc; exact V1.low_of (List.all_eq_true.1 h c hc)
  | no => trivial

def Out.ok (i : Inn) (o : Out) : Bool :=
  o.val.lowB o.n && o.live.all (fun p => p.1.blt o.n) && o.bx.all (fun p => p.1.blt o.n && p.2.all (Z1.lowB o.n)) && i.bx.all (fun p => (look o.bx p.1).isSome) && i.n.ble o.n
def Inn.ok (i : Inn) : Bool :=
  i.args.all (V1.lowB i.n) && i.live.all (fun p => p.1.blt i.n) && i.bx.all (fun p => p.1.blt i.n && p.2.all (Z1.lowB i.n))

theorem look_mem {α : Type} : ∀ {l : List (Nat × α)} {k : Nat} {x : α}, look l k = some x → (k, x) ∈ l
  | [], _, _, h => by cases h
  | (i, y) :: l, k, x, h => by
    simp only [look] at h
    split at h
    · rename_i hk; subst hk; cases h; exact List.mem_cons_self
    · exact List.mem_cons_of_mem _ (look_mem h)

/-- A function is called (one of the library's own may answer at once). -/
def Invoked (P : Program) (f : FuncId) (args : Array Value) (W : World) (R : Value → World → Prop) : Prop :=
  ((callFunc f args).run P W = .ok (.enter f args) W ∧ Calls P f args W fun e W' => ∃ v, e = .returned v ∧ R v W') ∨ ∃ v W', (callFunc f args).run P W = .ok (.value v) W' ∧ R v W'

/-- What a call of 'f' does, in numbers of its own. -/
def FnOK (P : Program) (f : FuncId) (i : Inn) (o : Out) : Prop :=
  o.ok i = true ∧ ∀ (E : Ent) (g : G) (W : World) (args : Array Value), args.size = i.args.length → (∀ (j : Nat) (v : Value) (z : V1), args[j]? = some v → i.args[j]? = some z → RV W g v z) →
    E.pk = i.n → (∀ j, j < i.n → g.ρ j = E.ρ0 j ∧ g.ω j = E.ω0 j) → E.W0 = W → E.F0 = g.F → HI P E g (look i.live) (bc (look i.bx)) W → HR P g (look i.live) (look i.bx) W → WB E g.F W →
    Invoked P f args W fun v W' => ∃ g', RZ W' g' v o.val ∧ HI P E g' (look o.live) (bc (look o.bx)) W' ∧ HR P g' (look o.live) (look o.bx) W' ∧ WB E g'.F W' ∧ ∀ j, j < i.n → g'.ρ j = g.ρ j ∧ g'.ω j = g.ω j

/-! The caller's numbers, as the callee's. -/
def idx : List Nat → Nat → Option Nat
  | [], _ => none
  | k :: r, x => if k = x then some 0 else (idx r x).map (· + 1)
theorem idx_get : ∀ {τ : List Nat} {k j : Nat}, idx τ k = some j → τ[j]? = some k
  | [], _, _, h => by cases h
  | x :: r, k, j, h => by
    simp only [idx] at h
    split at h
    · rename_i hk; subst hk; cases h; rfl
    · obtain ⟨m, h1, rfl⟩ := omap h
      simpa using idx_get h1
theorem idx_none : ∀ {τ : List Nat} {k : Nat}, idx τ k = none → k ∉ τ
  | [], _, _ => by simp
  | x :: r, k, h => by
    simp only [idx] at h
    split at h
    · cases h
    · rename_i hk
      have := idx_none (τ := r) (k := k) (by simpa using h)
      simp [this, Ne.symm hk]

def Z1.imp (τ : List Nat) : Z1 → Option Z1
  | .d x => some (.d x)
  | .own l sz xs => match idx τ l with
    | some j => some (.own j sz xs)
    | none => some (.d (.sl sz xs))
  | .ptr id off => (idx τ id).map fun j => .ptr j off
  | .el cs => some (.el cs)
  | .nn T xs => some (.nn T xs)
  | .pix id off n i => (idx τ id).map fun j => .pix j off n i
  | .row l T => (idx τ l).map fun j => .row j T
  | .pel l T i off => (idx τ l).map fun j => .pel j T i off
  | .run T xs => some (.run T xs)
  | .mref id => (idx τ id).map fun j => .mref j
  | .mp k k' l => some (.mp k k' l)
def impL (τ : List Nat) : List Z1 → Option (List Z1)
  | [] => some []
  | z :: r => match z.imp τ, impL τ r with
    | some z', some r' => some (z' :: r')
    | _, _ => none
def V1.imp (τ : List Nat) : V1 → Option V1
  | .c z => (z.imp τ).map .c
  | .agg cs => (impL τ cs).map .agg
def impV (τ : List Nat) (ev : Operand → Option V1) : List Operand → Option (List V1)
  | [] => some []
  | x :: r => match (ev x).bind (V1.imp τ), impV τ ev r with
    | some v, some l => some (v :: l)
    | _, _ => none
def impH (τ : List Nat) (live : Nat → Option Ow) (bx : Nat → Option (List Z1)) : Nat → List Nat → Option (List (Nat × Ow) × List (Nat × List Z1))
  | _, [] => some ([], [])
  | j, k :: r => match impH τ live bx (j + 1) r with
    | none => none
    | some (L, B) => match bx k with
      | some cs => (impL τ cs).map fun cs' => (match live k with
        | some e => (j, e) :: L
        | none => L, (j, cs') :: B)
      | none => (live k).map fun e => ((j, e) :: L, B)
def nodupB : List Nat → Bool
  | [] => true
  | k :: r => !(r.contains k) && nodupB r
theorem nodup_of : ∀ {l : List Nat}, nodupB l = true → l.Nodup
  | [], _ => List.nodup_nil
  | k :: r, h => by
    simp only [nodupB, Bool.and_eq_true, Bool.not_eq_true', List.contains_eq_mem, decide_eq_false_iff_not] at h
    exact List.nodup_cons.2 ⟨h.1, nodup_of h.2⟩

def Z1.exp (σ : Nat → Nat) : Z1 → Z1
  | .d x => .d x
  | .own l sz xs => .own (σ l) sz xs
  | .ptr id off => .ptr (σ id) off
  | .el cs => .el cs
  | .nn T xs => .nn T xs
  | .pix id off n i => .pix (σ id) off n i
  | .row l T => .row (σ l) T
  | .pel l T i off => .pel (σ l) T i off
  | .run T xs => .run T xs
  | .mref id => .mref (σ id)
  | .mp k k' l => .mp k k' l
def V1.exp (σ : Nat → Nat) : V1 → V1
  | .c z => .c (z.exp σ)
  | .agg cs => .agg (cs.map (Z1.exp σ))
def Z.exp (σ : Nat → Nat) : Z → Z
  | .one v => .one (v.exp σ)
  | .tup vs => .tup (vs.map (V1.exp σ))
  | .no => .no

/-- The callee's numbers, as the caller's. -/
def sig (τ : List Nat) (base : Nat) (j : Nat) : Nat := if j < τ.length then τ.getD j 0 else base + j

/-- Nil, handed on as a row of a kind. -/
def castZ (T : K) : Z1 → Z1
  | .d (.sl .unit _) => .d (.sl T [])
  | z => z
def castV (j : Nat) (T : K) : V1 → V1
  | .c z => .c (castZ T z)
  | .agg cs => .agg (cs.modify j (castZ T))
def castNil : List (Nat × Nat × K) → List V1 → List V1
  | [], l => l
  | (i, j, T) :: r, l => castNil r (l.modify i (castV j T))

def callIn (τ : List Nat) (nk : List (Nat × Nat × K)) (live : Nat → Option Ow) (bx : Nat → Option (List Z1)) (ev : Operand → Option V1) (args : List Operand) : Option Inn :=
  match impV τ ev args, impH τ live bx 0 τ with
  | some vs, some (L, B) => if nodupB τ then some ⟨castNil nk vs, L, B, τ.length⟩ else none
  | _, _ => none

section
variable {P : Program} {E : Ent} {g : G} {s : S} {a : Act} {W W' : World}

/-- The caller's places, by the callee's numbers. -/
def G.via (g : G) (τ : List Nat) : G := ⟨g.F, fun j => g.ρ (τ.getD j 0), fun j => g.ω (τ.getD j 0)⟩

theorem getD_of {τ : List Nat} {j k : Nat} (h : τ[j]? = some k) : τ.getD j 0 = k := by simp [List.getD, h]

theorem imp_rc {τ : List Nat} {v : Value} {z z' : Z1} (h : RC W g v z) (hz : z.imp τ = some z') : RC W (g.via τ) v z' := by
  cases z with
  | d x => cases hz; exact h
  | el cs => cases hz; exact h
  | own l sz xs =>
    simp only [Z1.imp] at hz
    split at hz
    · rename_i j hj
      cases hz
      exact ⟨h.1, by show g.ω (τ.getD j 0) = v; rw [getD_of (idx_get hj)]; exact h.2⟩
    · cases hz; exact h.1
  | ptr id off =>
    obtain ⟨j, hj, rfl⟩ := omap hz
    show v = .pointer (some ⟨g.ρ (τ.getD j 0), off, none⟩)
    rw [getD_of (idx_get hj)]; exact h
  | nn T xs => cases hz; exact h
  | pix id off n i =>
    obtain ⟨j, hj, rfl⟩ := omap hz
    show _ ∧ v = .pointer (some ⟨g.ρ (τ.getD j 0), _, none⟩)
    rw [getD_of (idx_get hj)]; exact h
  | row l T =>
    obtain ⟨j, hj, rfl⟩ := omap hz
    show g.ω (τ.getD j 0) = v ∧ _
    rw [getD_of (idx_get hj)]; exact h
  | pel l T i off =>
    obtain ⟨j, hj, rfl⟩ := omap hz
    show ∃ b N cap, g.ω (τ.getD j 0) = _ ∧ _
    rw [getD_of (idx_get hj)]; exact h
  | run T xs => exact h.elim
  | mref id =>
    obtain ⟨j, hj, rfl⟩ := omap hz
    show v = .map (some (g.ρ (τ.getD j 0)))
    rw [getD_of (idx_get hj)]; exact h
  | mp k k' l => exact h.elim

theorem imp_low {τ : List Nat} {z z' : Z1} (hz : z.imp τ = some z') : z'.below (· < τ.length) := by
  cases z with
  | d x => cases hz; trivial
  | el cs => cases hz; trivial
  | own l sz xs =>
    simp only [Z1.imp] at hz
    split at hz
    · rename_i j hj
      cases hz
      exact (List.getElem?_eq_some_iff.1 (idx_get hj)).1
    · cases hz; trivial
  | ptr id off =>
    obtain ⟨j, hj, rfl⟩ := omap hz
    exact (List.getElem?_eq_some_iff.1 (idx_get hj)).1
  | nn T xs => cases hz; trivial
  | pix id off n i =>
    obtain ⟨j, hj, rfl⟩ := omap hz
    exact (List.getElem?_eq_some_iff.1 (idx_get hj)).1
  | row l T =>
    obtain ⟨j, hj, rfl⟩ := omap hz
    exact (List.getElem?_eq_some_iff.1 (idx_get hj)).1
  | pel l T i off =>
    obtain ⟨j, hj, rfl⟩ := omap hz
    exact (List.getElem?_eq_some_iff.1 (idx_get hj)).1
  | run T xs => cases hz; trivial
  | mref id =>
    obtain ⟨j, hj, rfl⟩ := omap hz
    exact (List.getElem?_eq_some_iff.1 (idx_get hj)).1
  | mp k k' l => cases hz; trivial

theorem isRun_two (a b : Z1) (l : List Z1) : isRun (a :: b :: l) = false := by cases a <;> rfl
theorem impL_cons {τ : List Nat} {z : Z1} {r cs' : List Z1} (h : impL τ (z :: r) = some cs') : ∃ z' r', z.imp τ = some z' ∧ impL τ r = some r' ∧ cs' = z' :: r' := by
  simp only [impL] at h
  split at h
  · rename_i z' r' h1 h2; cases h; exact ⟨z', r', h1, h2, rfl⟩
  · cases h
theorem impL_nil {τ : List Nat} {cs' : List Z1} (h : impL τ [] = some cs') : cs' = [] := by simp [impL] at h; exact h
/-- A row's contents, or a map's, are the same in the callee's numbers. -/
theorem imp_run {τ : List Nat} {z : Z1} {T : K} {xs : List T.den} (h : z.imp τ = some (.run T xs)) : z = .run T xs := by
  cases z with
  | run T' xs' => cases h; rfl
  | own l sz xs => simp only [Z1.imp] at h; split at h <;> cases h
  | d x => cases h
  | el cs => cases h
  | nn T xs => cases h
  | mp k k' l => cases h
  | _ => obtain ⟨j, _, e⟩ := omap h; cases e
theorem impL_run {τ : List Nat} {cs : List Z1} {T : K} {xs : List T.den} (h : impL τ cs = some [.run T xs]) : cs = [.run T xs] := by
  cases cs with
  | nil => have := impL_nil h; cases this
  | cons z r =>
    obtain ⟨z', r', h1, h2, e⟩ := impL_cons h
    cases e
    cases r with
    | nil => rw [imp_run h1]
    | cons w r => obtain ⟨_, _, _, _, e⟩ := impL_cons h2; cases e
theorem isRun_imp {τ : List Nat} {cs cs' : List Z1} (h : impL τ cs = some cs') : isRun cs' = isRun cs := by
  cases cs with
  | nil => rw [impL_nil h]
  | cons z r =>
    obtain ⟨z', r', h1, h2, rfl⟩ := impL_cons h
    cases r with
    | cons w r => obtain ⟨_, _, _, _, rfl⟩ := impL_cons h2; rw [isRun_two, isRun_two]
    | nil =>
      rw [impL_nil h2]
      cases hz : isRun [z] with
      | true =>
        cases z <;> simp [isRun] at hz
        cases h1; rfl
      | false =>
        cases hz' : isRun [z'] with
        | false => rfl
        | true =>
          cases z' <;> simp [isRun] at hz'
          rw [imp_run h1] at hz; cases hz

theorem impL_rc {τ : List Nat} : ∀ {cs cs' : List Z1} {vs : List Value}, impL τ cs = some cs' → RCs W g vs cs → RCs W (g.via τ) vs cs'
  | [], cs', vs, h, hr => by simp [impL] at h; subst h; exact ⟨hr.1, by simp⟩
  | z :: r, cs', vs, h, hr => by
    simp only [impL] at h
    split at h
    · rename_i z' r' h1 h2
      cases h
      cases vs with
      | nil => have := hr.1; simp at this
      | cons v vs =>
        have ih := impL_rc h2 ⟨by have := hr.1; simpa using this, fun j u c q1 q2 => hr.2 (j + 1) u c q1 q2⟩
        refine ⟨by have := ih.1; simp [this], fun j u c q1 q2 => ?_⟩
        cases j with
        | zero => simp at q1 q2; subst q1; subst q2; exact imp_rc (hr.2 0 _ _ rfl rfl) h1
        | succ j => exact ih.2 j u c (by simpa using q1) (by simpa using q2)
    · cases h

theorem impV1_rv {τ : List Nat} {v : Value} {z z' : V1} (h : RV W g v z) (hz : z.imp τ = some z') : RV W (g.via τ) v z' := by
  cases z with
  | c z => obtain ⟨w, h1, rfl⟩ := omap hz; exact imp_rc h h1
  | agg cs =>
    obtain ⟨w, h1, rfl⟩ := omap hz
    obtain ⟨vs, hv, hr⟩ := h
    exact ⟨vs, hv, impL_rc h1 hr⟩

theorem impV_rv {τ : List Nat} (h : AI P E g s a W) : ∀ {xs : List Operand} {l : List V1}, impV τ s.ev xs = some l → xs.length = l.length ∧ ∀ (j : Nat) (v : Value) (z : V1), (xs.map a.eval)[j]? = some v → l[j]? = some z → RV W (g.via τ) v z
  | [], l, hl => by simp [impV] at hl; subst hl; simp
  | x :: r, l, hl => by
    simp only [impV] at hl
    split at hl
    · rename_i v l' h1 h2
      cases hl
      obtain ⟨z, hz, hi⟩ := obind h1
      obtain ⟨q1, q2⟩ := impV_rv h h2
      refine ⟨by simp [q1], fun j u c p1 p2 => ?_⟩
      cases j with
      | zero => simp at p1 p2; subst p1; subst p2; exact impV1_rv (h.ev hz).1 hi
      | succ j => exact q2 j u c (by simpa using p1) (by simpa using p2)
    · cases hl

theorem castZ_rc {T : K} {v : Value} {z : Z1} (h : RC W g v z) : RC W g v (castZ T z) := by
  unfold castZ
  split
  · exact (RD.nil_any (show RD W g.F v (.sl 0 _) from h) T.size).2.2
  · exact h
theorem castV_rv {j : Nat} {T : K} {v : Value} {z : V1} (h : RV W g v z) : RV W g v (castV j T z) := by
  cases z with
  | c z => exact castZ_rc h
  | agg cs =>
    obtain ⟨vs, hv, hr⟩ := h
    refine ⟨vs, hv, by simp [hr.1], fun q u c h1 h2 => ?_⟩
    rw [List.getElem?_modify] at h2
    obtain ⟨c0, h3, h4⟩ := omap h2
    have := hr.2 q u c0 h1 h3
    split at h4
    · rw [← h4]; exact castZ_rc this
    · rw [← h4]; exact this
theorem castNil_rv {us : List Value} : ∀ {nk : List (Nat × Nat × K)} {l : List V1}, (us.length = l.length ∧ ∀ (j : Nat) (v : Value) (z : V1), us[j]? = some v → l[j]? = some z → RV W g v z) →
    us.length = (castNil nk l).length ∧ ∀ (j : Nat) (v : Value) (z : V1), us[j]? = some v → (castNil nk l)[j]? = some z → RV W g v z
  | [], _, h => h
  | (i, j, T) :: r, l, h => castNil_rv (nk := r) ⟨by simp [h.1], fun q u c h1 h2 => by
      rw [List.getElem?_modify] at h2
      obtain ⟨c0, h3, h4⟩ := omap h2
      have := h.2 q u c0 h1 h3
      split at h4
      · rw [← h4]; exact castV_rv this
      · rw [← h4]; exact this⟩

theorem BoxIs.imp {τ : List Nat} {b : Nat} {cs cs' : List Z1} (h : BoxIs W g b cs) (hc : impL τ cs = some cs') : BoxIs W (g.via τ) b cs' := by
  rcases h with ⟨vs, ty, hh, hr⟩ | ⟨k, k', l, es, cl, rfl, hh, hr⟩
  · exact .inl ⟨vs, ty, hh, impL_rc hc hr⟩
  · obtain ⟨z', r', h1, h2, rfl⟩ := impL_cons hc
    cases h1; rw [impL_nil h2]
    exact .inr ⟨k, k', l, es, cl, rfl, hh, hr⟩

/-- The heap's part that is handed on. -/
theorem impH_spec {τ : List Nat} {live : Nat → Option Ow} {bx : Nat → Option (List Z1)} : ∀ {l : List Nat} {j0 : Nat} {L : List (Nat × Ow)} {B : List (Nat × List Z1)}, impH τ live bx j0 l = some (L, B) →
    (∀ j e, look L j = some e → j0 ≤ j ∧ ∃ k, l[j - j0]? = some k ∧ live k = some e) ∧
    (∀ j cs', look B j = some cs' → j0 ≤ j ∧ ∃ k cs, l[j - j0]? = some k ∧ bx k = some cs ∧ impL τ cs = some cs') ∧
    (∀ j k, l[j - j0]? = some k → j0 ≤ j → ∀ cs, bx k = some cs → (look B j).isSome)
  | [], j0, L, B, h => by
    simp only [impH, Option.some.injEq, Prod.mk.injEq] at h
    obtain ⟨rfl, rfl⟩ := h
    exact ⟨by simp [look], by simp [look], by simp⟩
  | k :: r, j0, L, B, h => by
    simp only [impH] at h
    split at h
    · cases h
    · rename_i L' B' hr
      obtain ⟨i1, i2, i3⟩ := impH_spec hr
      have sh : ∀ j, j0 + 1 ≤ j → (k :: r)[j - j0]? = r[j - (j0 + 1)]? := by
        intro j hj
        rw [show j - j0 = (j - (j0 + 1)) + 1 from by omega]
        rfl
      split at h
      · rename_i cs hb
        obtain ⟨cs', hc, e⟩ := omap h
        simp only [Prod.mk.injEq] at e
        obtain ⟨rfl, rfl⟩ := e
        refine ⟨fun j e he => ?_, fun j c hj => ?_, fun j k' hk hj cs0 hb0 => ?_⟩
        · have old : look L' j = some e → j0 ≤ j ∧ ∃ k', (k :: r)[j - j0]? = some k' ∧ live k' = some e := fun he => by
            obtain ⟨q1, k', q2⟩ := i1 j e he
            exact ⟨by omega, k', by rw [sh j q1]; exact q2⟩
          cases hlk : live k with
          | none => rw [hlk] at he; exact old he
          | some e0 =>
            rw [hlk] at he
            simp only [look] at he
            split at he
            · rename_i e1; subst e1; cases he
              exact ⟨Nat.le_refl _, k, by simp, hlk⟩
            · exact old he
        · simp only [look] at hj
          split at hj
          · rename_i e; subst e; cases hj
            exact ⟨Nat.le_refl _, k, cs, by simp, hb, hc⟩
          · obtain ⟨q1, k', q2⟩ := i2 j c hj
            exact ⟨by omega, k', by rw [sh j q1]; exact q2⟩
        · simp only [look]
          split
          · rfl
          · rename_i hne
            exact i3 j k' (by rw [← sh j (by omega)]; exact hk) (by omega) cs0 hb0
      · rename_i hb
        obtain ⟨e0, hc, e⟩ := omap h
        simp only [Prod.mk.injEq] at e
        obtain ⟨rfl, rfl⟩ := e
        refine ⟨fun j e he => ?_, fun j c hj => ?_, fun j k' hk hj cs0 hb0 => ?_⟩
        · simp only [look] at he
          split at he
          · rename_i e; subst e; cases he
            exact ⟨Nat.le_refl _, k, by simp, hc⟩
          · obtain ⟨q1, k', q2⟩ := i1 j e he
            exact ⟨by omega, k', by rw [sh j q1]; exact q2⟩
        · obtain ⟨q1, k', q2⟩ := i2 j c hj
          exact ⟨by omega, k', by rw [sh j q1]; exact q2⟩
        · by_cases hjj : j0 = j
          · subst hjj; simp at hk; subst hk; rw [hb] at hb0; cases hb0
          · exact i3 j k' (by rw [← sh j (by omega)]; exact hk) (by omega) cs0 hb0
end
end Zed
