/- ZED, seventeenth text: a region, in whichever order its operations come. -/
import Derived.Test.YtakamchmiakicaaDoorZedP
namespace Zed
open Go
set_option linter.unusedVariables false
set_option linter.unusedSimpArgs false

/-- An operation that has been told: its place, what it does, its first number, how many numbers it takes. -/
structure Step where
  i : Nat
  st : Stp
  base : Nat
  n : Nat

def Eff.keys (e : Eff) : List Nat := e.kill ++ e.add.map (·.1) ++ e.put.map (·.1)

section
variable {P : Program} {tab : Tab} {ops : Array Oper} {orc : Nat → Option Ch}

def S.after (s : S) (o : Oper) (x : Step) : S := s.go o.dst x.st.z x.st.e (used s.us x.base x.n)

/-- The operations one behind the other. -/
def RunT (P : Program) (tab : Tab) (ops : Array Oper) (orc : Nat → Option Ch) : List Step → S → S → Prop
  | [], s, s' => s = s'
  | x :: l, s, s' => ∃ o, ops[x.i]? = some o ∧ stpZ P tab ops x.base (orc x.i) s o = some (x.st, x.n) ∧ holds x.st.C ∧ (∀ j, j < x.n → ¬ s.us (x.base + j)) ∧ RunT P tab ops orc l (s.after o x) s'

def disj (l m : List Nat) : Prop := ∀ k ∈ l, k ∉ m

/-- Two operations that don't touch what the other one touches. -/
structure Apart (ops : Array Oper) (x y : Step) : Prop where
  ops : ∀ ox oy, ops[x.i]? = some ox → ops[y.i]? = some oy → ox.apart ops oy = true
  xy : disj x.st.e.keys (y.st.rd ++ y.st.e.keys)
  yx : disj y.st.e.keys x.st.rd
  num : ∀ j k, j < x.n → k < y.n → x.base + j ≠ y.base + k

theorem lv_ne {e : Eff} {f : Nat → Option Ow} {k : Nat} (h : k ∉ e.keys) : e.lv f k = f k := by
  have h1 : look e.add k = none := by
    cases hl : look e.add k with
    | none => rfl
    | some t => exact absurd (by simp only [Eff.keys, List.mem_append]; exact .inl (.inr (List.mem_map.2 ⟨_, look_mem hl, rfl⟩))) h
  have h2 : e.kill.contains k = false := by
    simp only [Eff.keys, List.mem_append, not_or] at h
    simpa using h.1.1
  simp only [Eff.lv, h1]
  rw [h2]
  rfl
theorem bv_ne {e : Eff} {f : Nat → Option (List Z1)} {k : Nat} (h : k ∉ e.keys) : e.bv f k = f k := by
  have h1 : look e.put k = none := by
    cases hl : look e.put k with
    | none => rfl
    | some t => exact absurd (by simp only [Eff.keys, List.mem_append]; exact .inr (List.mem_map.2 ⟨_, look_mem hl, rfl⟩)) h
  simp [Eff.bv, h1]
theorem lv_at {e : Eff} {f f' : Nat → Option Ow} {k : Nat} (h : f k = f' k) : e.lv f k = e.lv f' k := by simp only [Eff.lv, h]
theorem bv_at {e : Eff} {f f' : Nat → Option (List Z1)} {k : Nat} (h : f k = f' k) : e.bv f k = e.bv f' k := by simp only [Eff.bv, h]

theorem lv_comm {e e' : Eff} (h : disj e.keys e'.keys) (f : Nat → Option Ow) : e.lv (e'.lv f) = e'.lv (e.lv f) := by
  funext k
  by_cases h1 : k ∈ e.keys
  · rw [lv_ne (e := e') (h k h1)]; exact lv_at (lv_ne (h k h1))
  · rw [lv_ne h1]; exact lv_at (lv_ne h1).symm
theorem bv_comm {e e' : Eff} (h : disj e.keys e'.keys) (f : Nat → Option (List Z1)) : e.bv (e'.bv f) = e'.bv (e.bv f) := by
  funext k
  by_cases h1 : k ∈ e.keys
  · rw [bv_ne (e := e') (h k h1)]; exact bv_at (bv_ne (h k h1))
  · rw [bv_ne h1]; exact bv_at (bv_ne h1).symm

theorem putD_comm {α : Type} (f : Nat → α) {d d' : Option Nat} (x y : α) (h : ∀ k, d = some k → d' ≠ some k) : putD (putD f d x) d' y = putD (putD f d' y) d x := by
  cases d with
  | none => rfl
  | some k =>
    cases d' with
    | none => rfl
    | some k' =>
      have hne : k ≠ k' := fun e => h k rfl (by rw [e])
      funext j
      simp only [putD, setN]
      by_cases h1 : j = k <;> by_cases h2 : j = k' <;> simp_all
theorem putD_ne {α : Type} (f : Nat → α) {d : Option Nat} (x : α) {t : Nat} (h : d ≠ some t) : putD f d x t = f t := by
  cases d with
  | none => rfl
  | some k => simp only [putD]; exact setN_ne _ _ (fun e => h (by rw [e]))

theorem stpZ_local {base : Nat} {ch : Option Ch} {s s' : S} {o : Oper} {st : Stp} {n : Nat} (h : ∀ t, t ∈ o.looksAt ops → s.sl t = s'.sl t)
    (hz : stpZ P tab ops base ch s o = some (st, n)) (hk : ∀ k ∈ st.rd, s.live k = s'.live k ∧ s.bx k = s'.bx k) : stpZ P tab ops base ch s' o = some (st, n) := by
  have hw : wantZ ops s'.sl o = wantZ ops s.sl o := by
    unfold wantZ
    cases hg : o.guard with
    | none => rfl
    | some p =>
      obtain ⟨j, w⟩ := p
      simp only
      cases hd : (ops[j]?).bind (·.dst) with
      | none => rfl
      | some d => 
        simp only
        rw [← h d (by simp [Oper.looksAt, hg, hd])]
  unfold stpZ at hz ⊢
  rw [hw]
  split at hz
  · exact opZ_local (fun t ht => h t (by simp only [Oper.looksAt, List.mem_append, List.mem_filterMap]; exact .inl ⟨_, ht, rfl⟩)) hz hk
  · exact hz
  · cases hz

/-- Two that are apart may change places. -/
theorem swap {x y : Step} {l : List Step} {s s' : S} (h : RunT P tab ops orc (x :: y :: l) s s') (hap : Apart ops x y) : RunT P tab ops orc (y :: x :: l) s s' := by
  obtain ⟨ox, hx1, hx2, hx3, hx4, oy, hy1, hy2, hy3, hy4, hl⟩ := h
  obtain ⟨a1, a2, a3⟩ := Oper.apart_spec (hap.ops ox oy hx1 hy1)
  have e1 : stpZ P tab ops y.base (orc y.i) s oy = some (y.st, y.n) := stpZ_local (s := s.after ox x) (fun t ht => putD_ne _ _ (fun e => a1 t e ht)) hy2
    (fun k hk => ⟨lv_ne (fun q => hap.xy k q (List.mem_append.2 (.inl hk))), bv_ne (fun q => hap.xy k q (List.mem_append.2 (.inl hk)))⟩)
  have e2 : stpZ P tab ops x.base (orc x.i) (s.after oy y) ox = some (x.st, x.n) := stpZ_local (s := s) (fun t ht => (putD_ne _ _ (fun e => a3 t e ht)).symm) hx2
    (fun k hk => ⟨(lv_ne (fun q => hap.yx k q hk)).symm, (bv_ne (fun q => hap.yx k q hk)).symm⟩)
  have hkk : disj x.st.e.keys y.st.e.keys := fun k hk hk' => hap.xy k hk (List.mem_append.2 (.inr hk'))
  have e3 : (s.after ox x).after oy y = (s.after oy y).after ox x := by
    simp only [S.after, S.go, S.mk.injEq]
    refine ⟨putD_comm _ _ _ a2, (lv_comm hkk _).symm, (bv_comm hkk _).symm, ?_⟩
    funext k
    simp only [used, eq_iff_iff]
    constructor <;> intro h <;> rcases h with (h | h) | h <;> simp [h]
  refine ⟨oy, hy1, e1, hy3, fun j hj q => hy4 j hj (.inl q), ox, hx1, e2, hx3, fun j hj q => ?_, by rw [← e3]; exact hl⟩
  rcases q with q | q
  · exact hx4 j hj q
  · have := hap.num j (x.base + j - y.base) hj (by omega)
    omega

/-- One may come first, that is apart from all ahead of it. -/
theorem bubble {y : Step} {l : List Step} {s' : S} : ∀ {m : List Step} {s : S}, RunT P tab ops orc (m ++ y :: l) s s' → (∀ x ∈ m, Apart ops x y) → RunT P tab ops orc (y :: (m ++ l)) s s'
  | [], _, h, _ => h
  | x :: m, s, h, hap => by
    obtain ⟨ox, hx1, hx2, hx3, hx4, hl⟩ := h
    have := bubble hl (fun z hz => hap z (List.mem_cons_of_mem _ hz))
    exact swap ⟨ox, hx1, hx2, hx3, hx4, this⟩ (hap x List.mem_cons_self)
end
end Zed
