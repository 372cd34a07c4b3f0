/- ZED, twentieth text: the state as lists; a region's run; the code between regions. -/
import Derived.Test.YtakamchmiakicaaDoorZedS
namespace Zed
open Go
set_option linter.unusedVariables false
set_option linter.unusedSimpArgs false

structure St where
  sl : List (Nat × Z)
  live : List (Nat × Option Ow)
  bx : List (Nat × List Z1)
  nx : Nat
def lvOf (l : List (Nat × Option Ow)) : Nat → Option Ow := fun k => (look l k).bind id
def St.den (s : St) : S := ⟨look s.sl, lvOf s.live, look s.bx, (· < s.nx)⟩
def consD {α : Type} (d : Option Nat) (x : α) (l : List (Nat × α)) : List (Nat × α) := match d with
  | some d => (d, x) :: l
  | none => l
def St.go (s : St) (dst : Option Nat) (z : Z) (e : Eff) (n : Nat) : St :=
  { sl := consD dst z s.sl, live := (e.add.map fun p => (p.1, some p.2)) ++ ((e.kill.map fun k => (k, none)) ++ s.live), bx := e.put ++ s.bx, nx := s.nx + n }

theorem look_append {α : Type} : ∀ (l m : List (Nat × α)) (k : Nat), look (l ++ m) k = match look l k with
    | some x => some x
    | none => look m k
  | [], m, k => rfl
  | (i, x) :: l, m, k => by
    simp only [List.cons_append, look]
    split
    · rfl
    · exact look_append l m k
theorem look_addS : ∀ (l : List (Nat × Ow)) (k : Nat), look (l.map fun p => (p.1, some p.2)) k = (look l k).map some
  | [], _ => rfl
  | (i, x) :: l, k => by
    simp only [List.map_cons, look]
    split
    · rfl
    · exact look_addS l k
theorem look_killS : ∀ (l : List Nat) (k : Nat), look (l.map fun k => ((k, none) : Nat × Option Ow)) k = if l.contains k then some none else none
  | [], _ => by simp [look]
  | i :: l, k => by
    simp only [List.map_cons, look]
    by_cases h : i = k
    · subst h; simp
    · rw [if_neg h, look_killS l k]
      simp [Ne.symm h]

theorem St.go_den (s : St) (o : Oper) (st : Stp) (n i : Nat) : (s.go o.dst st.z st.e n).den = s.den.after o ⟨i, st, s.nx, n⟩ := by
  simp only [St.den, St.go, S.after, S.go, S.mk.injEq]
  refine ⟨?_, ?_, ?_, ?_⟩
  · cases o.dst with
    | none => rfl
    | some d =>
      funext t
      simp only [consD, look, putD, setN]
      by_cases h : d = t
      · subst h; simp
      · rw [if_neg h, if_neg (Ne.symm h)]
  · funext k
    simp only [lvOf, look_append, look_addS, look_killS, Eff.lv]
    cases look st.e.add k with
    | some x => rfl
    | none =>
      simp only [Option.map_none]
      by_cases h : st.e.kill.contains k = true
      · simp only [h, if_true]; rfl
      · simp only [h]; rfl
  · funext k
    simp only [look_append, Eff.bv]
    cases look st.e.put k <;> rfl
  · funext k
    simp only [used, eq_iff_iff]
    omega

def AllC : List Prop → Prop
  | [] => True
  | p :: r => p ∧ AllC r
def consC (c : Option Prop) (C : List Prop) : List Prop := match c with
  | none => C
  | some c => c :: C
theorem allC_cons {c : Option Prop} {C : List Prop} (h : AllC (consC c C)) : holds c ∧ AllC C := by
  cases c with
  | none => exact ⟨trivial, h⟩
  | some c => exact h

def runZ (P : Program) (tab : Tab) (ops : Array Oper) (orc : List (Nat × Ch)) : Nat → List Oper → St → Option (St × List Step × List Prop)
  | _, [], s => some (s, [], [])
  | i, o :: r, s => match stpZ P tab ops s.nx (look orc i) s.den o with
    | some (st, n) => match runZ P tab ops orc (i + 1) r (s.go o.dst st.z st.e n) with
      | some (s', l, C) => some (s', ⟨i, st, s.nx, n⟩ :: l, consC st.C C)
      | none => none
    | none => none

section
variable {P : Program} {tab : Tab} {ops : Array Oper} {orc : List (Nat × Ch)}

theorem runZ_spec : ∀ {l : List Oper} {i : Nat} {s s' : St} {tr : List Step} {C : List Prop}, runZ P tab ops orc i l s = some (s', tr, C) → AllC C → (∀ k, ops[i + k]? = l[k]?) →
    RunT P tab ops (look orc) tr s.den s'.den ∧ tr.map Step.i = List.range' i l.length ∧ NumUp s.nx tr
  | [], i, s, s', tr, C, h, _, _ => by
    simp only [runZ, Option.some.injEq, Prod.mk.injEq] at h
    obtain ⟨rfl, rfl, rfl⟩ := h
    exact ⟨rfl, rfl, trivial⟩
  | o :: r, i, s, s', tr, C, h, hC, hl => by
    simp only [runZ] at h
    split at h
    · rename_i st n hst
      split at h
      · rename_i s2 l2 C2 hr
        simp only [Option.some.injEq, Prod.mk.injEq] at h
        obtain ⟨rfl, rfl, rfl⟩ := h
        obtain ⟨c1, c2⟩ := allC_cons hC
        obtain ⟨i1, i2, i3⟩ := runZ_spec hr c2 (fun k => by have := hl (k + 1); rw [show i + 1 + k = i + (k + 1) from by omega]; simpa using this)
        have h0 := hl 0
        simp only [Nat.add_zero, List.getElem?_cons_zero] at h0
        refine ⟨⟨o, h0, hst, c1, fun j hj q => by have : s.nx + j < s.nx := q; omega, ?_⟩, ?_, ⟨Nat.le_refl _, i3⟩⟩
        · rw [← St.go_den]; exact i1
        · simp [i2, List.range'_succ]
      · cases h
    · cases h

def regOk (ops : Array Oper) (draw : Bool) (tr : List Step) : Bool := if draw then backOk ops 0 ops.toList && pairsOk ops (masks ops.toList []) tr else true
def dstB (nt : Nat) (ops : Array Oper) : Bool := ops.toList.all fun o => match o.dst with
  | some d => d.blt nt
  | none => true
theorem dst_of {nt : Nat} (h : dstB nt ops = true) : DstOk ops nt := by
  intro i o ho d hd
  have := List.all_eq_true.1 h o (by rw [Array.mem_toList_iff]; exact Array.mem_of_getElem? ho)
  rw [hd] at this
  simpa using this

theorem back_of : ∀ {l : List Oper} {i : Nat}, backOk ops i l = true → ∀ k o, l[k]? = some o → ∀ e ∈ o.after.toList, Region.binds .any e = true → e.on < i + k
  | [], _, _, k, o, hk, _, _, _ => by cases k <;> cases hk
  | o' :: r, i, h, k, o, hk, e, he, hb => by
    simp only [backOk, Bool.and_eq_true, List.all_eq_true] at h
    cases k with
    | zero =>
      simp at hk; subst hk
      have := h.1 e he
      simp [hb] at this
      omega
    | succ k =>
      have := back_of h.2 k o (by simpa using hk) e he hb
      omega

/-- A REGION. -/
theorem region_run {E : Ent} {g : G} {a : Act} {W : World} (hmix : P.follows .mixedOrders = true) (ht : TabOk P tab) {s s' : St} {tr : List Step} {C : List Prop} {id : Nat} {draw : Bool}
    (hr : runZ P tab ops orc 0 ops.toList s = some (s', tr, C)) (hC : AllC C) (hok : regOk ops draw tr = true) (hd : dstB E.nt ops = true) (h : AI P E g s.den a W) :
    (Code.region id ops draw).wp P (Nrm fun a' W' => ∃ g', AI P E g' s'.den a' W') a W := by
  obtain ⟨h1, h2, h3⟩ := runZ_spec hr hC (fun k => by simp)
  have hd := dst_of hd
  cases draw with
  | false =>
    refine wp_region ?_
    have e : List.range ops.size = tr.map Step.i := by rw [h2, List.range_eq_range']; simp
    rw [e]
    exact ops_run ht hd (fun a W g h => ⟨g, h⟩) h1 h
  | true =>
    refine wp_region_any hmix ?_
    simp only [regOk, if_true, Bool.and_eq_true] at hok
    obtain ⟨hb, hp⟩ := hok
    obtain ⟨m1, m2⟩ := masks_ok (ops := ops) ops.toList [] (fun k => by simp) (fun i m o hm => by simp at hm)
    have hlen : tr.length = ops.size := by have := congrArg List.length h2; simpa using this
    have hW : AI P E g s.den a { W with drawn := W.drawn + 1 } := by
      have hk : Keeps g.F g.F W { W with drawn := W.drawn + 1 } := Keeps.drawn W _ _
      have hg := Goes.drawn W (W.drawn + 1)
      have := h.step (dst := none) (z := .no) (v := undef) (live' := s.den.live) (bx' := s.den.bx) (n' := s.den.us) (by simp) (fun _ q => q) hk (fun _ _ => rfl) (fun _ _ => rfl) (h.b.goes hg (fun _ => False.elim) hk (fun b o hf => .inl hf))
        (h.h.goes (n := s.den.us) hg hk (fun b o hf => .inl hf) (fun _ _ => rfl) (fun _ _ => rfl) (fun l e hl => ⟨h.liveLow l e hl, hl, fun _ _ q => q⟩) (fun i c hi => ⟨(h.boxLow i c (bc_some hi).1).1, hi, (h.boxLow i c (bc_some hi).1).2, fun q => q⟩)) (h.r.goes (n := s.den.us) h.h hg hk (fun _ _ => rfl) (fun i T xs e q1 q2 _ => ⟨(h.boxLow i _ q1).1, q1, q2, fun _ _ q => q⟩)) h.liveLow h.boxLow rfl trivial
      exact this
    have hidx : ∀ i, i < ops.size → ∃ x ∈ tr, x.i = i := by
      intro i hi
      have : i ∈ tr.map Step.i := by rw [h2]; simp; omega
      obtain ⟨x, hx, hxi⟩ := List.mem_map.1 this
      exact ⟨x, hx, hxi⟩
    have hlt : ∀ x ∈ tr, x.i < ops.size := by
      intro x hx
      have : x.i ∈ tr.map Step.i := List.mem_map.2 ⟨x, hx, rfl⟩
      rw [h2] at this
      simpa using this
    have hpw : tr.Pairwise (fun x y => x.i < y.i) := by
      have : (tr.map Step.i).Pairwise (· < ·) := by rw [h2]; exact List.pairwise_lt_range'
      exact List.pairwise_map.1 this
    refine any_run ht hd (fun a W g h => ⟨g, h⟩) m1 (by simpa using m2) (fun i o ho e he hbd => ?_) ops.size h1 hW (by omega) (by simp) (fun i o ho hl => ?_) (fun i hi => ?_) hlt hpw (pairsOk_spec hp h3.pair)
    · have := back_of hb i o (by simpa using ho) e he hbd
      omega
    · exfalso
      have hi : i < ops.size := (Array.getElem?_eq_some_iff.1 ho).1
      simp [hi] at hl
    · simp [hi]
      exact hidx i hi
end
end Zed
