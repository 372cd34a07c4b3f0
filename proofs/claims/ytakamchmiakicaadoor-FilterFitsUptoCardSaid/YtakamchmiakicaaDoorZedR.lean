/- ZED, eighteenth text: a region's steps, told in the text's order, hold in any order that the edges let. -/
import Derived.Test.YtakamchmiakicaaDoorZedQ
namespace Zed
open Go
set_option linter.unusedVariables false
set_option linter.unusedSimpArgs false

/-- Which operations must have come, as bits: for each operation of a region. -/
def maskOf (ms : List Nat) : List Edge → Nat
  | [] => 0
  | e :: r => if Region.binds .any e then (2 ^ e.on) ||| ms.getD e.on 0 ||| maskOf ms r else maskOf ms r
def masks : List Oper → List Nat → List Nat
  | [], ms => ms
  | o :: r, ms => masks r (ms ++ [maskOf ms o.after.toList])

theorem testBit_maskOf {ms : List Nat} {j : Nat} : ∀ {l : List Edge}, (maskOf ms l).testBit j = true → ∃ e ∈ l, Region.binds .any e = true ∧ (j = e.on ∨ (ms.getD e.on 0).testBit j = true)
  | [], h => by simp [maskOf] at h
  | e :: r, h => by
    simp only [maskOf] at h
    split at h
    · rename_i hb
      simp only [Nat.testBit_or, Bool.or_eq_true, Nat.testBit_two_pow] at h
      rcases h with (h | h) | h
      · refine ⟨e, List.mem_cons_self, hb, .inl ?_⟩
        simp at h
        exact h.symm
      · exact ⟨e, List.mem_cons_self, hb, .inr h⟩
      · obtain ⟨e', h1, h2⟩ := testBit_maskOf h
        exact ⟨e', List.mem_cons_of_mem _ h1, h2⟩
    · obtain ⟨e', h1, h2⟩ := testBit_maskOf h
      exact ⟨e', List.mem_cons_of_mem _ h1, h2⟩

section
variable {ops : Array Oper}

/-- What the bits say. -/
def MaskOk (ops : Array Oper) (ms : List Nat) : Prop := ∀ i m o, ms[i]? = some m → ops[i]? = some o → ∀ j, m.testBit j = true → ∃ e ∈ o.after.toList, Region.binds .any e = true ∧ (j = e.on ∨ (e.on < i ∧ (ms.getD e.on 0).testBit j = true))

theorem masks_ok : ∀ (l : List Oper) (ms : List Nat), (∀ k, ops[ms.length + k]? = l[k]?) → MaskOk ops ms → MaskOk ops (masks l ms) ∧ (masks l ms).length = ms.length + l.length
  | [], ms, _, h => ⟨h, rfl⟩
  | o :: r, ms, hl, h => by
    have h' : MaskOk ops (ms ++ [maskOf ms o.after.toList]) := by
      intro i m o' hm ho j hj
      by_cases hi : i < ms.length
      · rw [List.getElem?_append_left hi] at hm
        obtain ⟨e, h1, h2, h3⟩ := h i m o' hm ho j hj
        refine ⟨e, h1, h2, h3.imp id (fun ⟨q1, q2⟩ => ⟨q1, ?_⟩)⟩
        rw [List.getD, List.getElem?_append_left (by omega)]
        exact q2
      · have hi' : i = ms.length := by
          have := (List.getElem?_eq_some_iff.1 hm).1
          simp at this; omega
        subst hi'
        simp at hm
        subst hm
        have ho' : o' = o := by
          have := hl 0
          simp at this
          rw [this] at ho
          exact (Option.some.inj ho).symm
        subst ho'
        obtain ⟨e, h1, h2, h3⟩ := testBit_maskOf hj
        refine ⟨e, h1, h2, h3.imp id (fun q => ?_)⟩
        have hlt : e.on < ms.length := by
          rcases Nat.lt_or_ge e.on ms.length with q1 | q1
          · exact q1
          · rw [List.getD, List.getElem?_eq_none q1] at q; simp at q
        refine ⟨hlt, ?_⟩
        rw [List.getD, List.getElem?_append_left hlt]
        exact q
    obtain ⟨h1, h2⟩ := masks_ok r (ms ++ [maskOf ms o.after.toList]) (fun k => by
      have := hl (k + 1)
      simp only [List.length_append, List.length_cons, List.length_nil]
      rw [show ms.length + (0 + 1) + k = ms.length + (k + 1) from by omega, this]
      rfl) h'
    exact ⟨h1, by rw [masks, h2]; simp; omega⟩

/-- Whoever is listed, so are those that must have come ahead. -/
def Closed (ops : Array Oper) (listed : Array Bool) : Prop := ∀ i o, ops[i]? = some o → listed.getD i false = true → ∀ e ∈ o.after.toList, Region.binds .any e = true → listed.getD e.on false = true

theorem mask_listed {ms : List Nat} {listed : Array Bool} (hms : MaskOk ops ms) (hcl : Closed ops listed) : ∀ (i : Nat) (o : Oper) (m : Nat), ops[i]? = some o → ms[i]? = some m →
    (∀ e ∈ o.after.toList, Region.binds .any e = true → listed.getD e.on false = true) → ∀ j, m.testBit j = true → listed.getD j false = true := by
  intro i
  induction i using Nat.strongRecOn with
  | _ i ih =>
    intro o m ho hm hall j hj
    obtain ⟨e, h1, h2, h3 | ⟨h3, h4⟩⟩ := hms i m o hm ho j hj
    · rw [h3]; exact hall e h1 h2
    · have hl := hall e h1 h2
      have hi : i < ops.size := (Array.getElem?_eq_some_iff.1 ho).1
      have ho' : ops[e.on]? = some ops[e.on] := Array.getElem?_eq_getElem (by omega)
      have hm' : ms[e.on]? = some (ms.getD e.on 0) := by
        cases hq : ms[e.on]? with
        | none => rw [List.getD, hq] at h4; simp at h4
        | some m' => simp [List.getD, hq]
      exact ih e.on h3 _ _ ho' hm' (hcl _ _ ho' hl) j h4
end

/-! The check. -/
def disjB (l m : List Nat) : Bool := l.all fun k => !(m.contains k)
theorem disj_of {l m : List Nat} (h : disjB l m = true) : disj l m := by
  intro k hk hm
  have := List.all_eq_true.1 h k hk
  simp [hm] at this

def apartB (ops : Array Oper) (ox oy : Oper) (x y : Step) : Bool :=
  ox.apart ops oy && disjB x.st.e.keys (y.st.rd ++ y.st.e.keys) && disjB y.st.e.keys x.st.rd

/-- All that aren't told to wait are apart. -/
def pairsOk (ops : Array Oper) (ms : List Nat) : List Step → Bool
  | [] => true
  | x :: l => l.all (fun y => (ms.getD y.i 0).testBit x.i || (match ops[x.i]?, ops[y.i]? with
      | some ox, some oy => apartB ops ox oy x y
      | _, _ => false)) && pairsOk ops ms l
def backOk (ops : Array Oper) : Nat → List Oper → Bool
  | _, [] => true
  | i, o :: r => o.after.toList.all (fun e => !(Region.binds .any e) || e.on.blt i) && backOk ops (i + 1) r

/-- Numbers one behind the other. -/
def NumUp : Nat → List Step → Prop
  | _, [] => True
  | b, x :: l => b ≤ x.base ∧ NumUp (x.base + x.n) l
theorem NumUp.le : ∀ {l : List Step} {b : Nat}, NumUp b l → ∀ y ∈ l, b ≤ y.base
  | [], _, _, _, hy => by cases hy
  | _ :: _, _, h, y, hy => by
    rcases List.mem_cons.1 hy with rfl | hy
    · exact h.1
    · have := NumUp.le h.2 y hy; have := h.1; omega
theorem NumUp.pair : ∀ {l : List Step} {b : Nat}, NumUp b l → l.Pairwise (fun x y => x.base + x.n ≤ y.base)
  | [], _, _ => .nil
  | x :: l, b, h => .cons (fun y hy => NumUp.le h.2 y hy) (NumUp.pair h.2)

theorem pairsOk_spec {ops : Array Oper} {ms : List Nat} : ∀ {l : List Step}, pairsOk ops ms l = true → l.Pairwise (fun x y => x.base + x.n ≤ y.base) → l.Pairwise (fun x y => (ms.getD y.i 0).testBit x.i = true ∨ Apart ops x y)
  | [], _, _ => .nil
  | x :: l, h, hn => by
    simp only [pairsOk, Bool.and_eq_true, List.all_eq_true, Bool.or_eq_true] at h
    obtain ⟨h1, h2⟩ := h
    cases hn with
    | cons hn1 hn2 =>
      refine .cons (fun y hy => (h1 y hy).imp id (fun q => ?_)) (pairsOk_spec h2 hn2)
      split at q
      · rename_i ox oy e1 e2
        simp only [apartB, Bool.and_eq_true] at q
        refine ⟨fun ox' oy' q1 q2 => ?_, disj_of q.1.2, disj_of q.2, fun j k hj hk => ?_⟩
        · rw [e1] at q1; rw [e2] at q2; cases q1; cases q2; exact q.1.1
        · have := hn1 y hy; omega
      · cases q
end Zed
