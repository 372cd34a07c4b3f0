/- ZED, nineteenth text: a region. -/
import Derived.Test.YtakamchmiakicaaDoorZedR
namespace Zed
open Go
set_option linter.unusedVariables false
set_option linter.unusedSimpArgs false

section
variable {P : Program} {tab : Tab} {E : Ent} {g : G} {s : S} {a : Act} {W : World} {ops : Array Oper} {orc : Nat → Option Ch}

/-- Only a normal end is looked at. -/
def Nrm (K : Act → World → Prop) : Exit → Act → World → Prop
  | .normal, a, w => K a w
  | _, _, _ => False

def DstOk (ops : Array Oper) (nt : Nat) : Prop := ∀ (i : Nat) (o : Oper), ops[i]? = some o → ∀ d, o.dst = some d → d < nt

/-- In the text's order. -/
theorem ops_run (ht : TabOk P tab) (hd : DstOk ops E.nt) {K : Act → World → Prop} {s' : S} (hK : ∀ a W g, AI P E g s' a W → K a W) : ∀ {l : List Step} {s : S} {a : Act} {W : World} {g : G}, RunT P tab ops orc l s s' → AI P E g s a W →
    wpOps P ops (Nrm K) (l.map Step.i) a W
  | [], s, a, W, g, hr, h => by cases hr; exact hK a W g h
  | x :: l, s, a, W, g, hr, h => by
    obtain ⟨o, h1, h2, h3, h4, h5⟩ := hr
    rw [List.map_cons, wpOps_cons]
    exact wpOp_mono (fun a' W' ⟨g', h'⟩ => ops_run ht hd hK h5 h') (stpZ_wp ht h h1 h2 h3 (hd _ o h1) h4)

theorem getD_set {listed : Array Bool} {i k : Nat} (hi : i < listed.size) : (listed.setIfInBounds i true).getD k false = if i = k then true else listed.getD k false := by
  simp only [Array.getD_eq_getD_getElem?, Array.getElem?_setIfInBounds]
  split
  · rename_i h; subst h; simp [hi]
  · rfl

/-- In any order. -/
theorem any_run (ht : TabOk P tab) (hd : DstOk ops E.nt) {K : Act → World → Prop} {s' : S} (hK : ∀ a W g, AI P E g s' a W → K a W) {ms : List Nat} (hms : MaskOk ops ms) (hml : ms.length = ops.size)
    (hback : ∀ i o, ops[i]? = some o → ∀ e ∈ o.after.toList, Region.binds .any e = true → e.on < i) : ∀ (fuel : Nat) {l : List Step} {listed : Array Bool} {s : S} {a : Act} {W : World} {g : G},
    RunT P tab ops orc l s s' → AI P E g s a W → l.length ≤ fuel → listed.size = ops.size → Closed ops listed →
    (∀ i, i < ops.size → (listed.getD i false = false ↔ ∃ x ∈ l, x.i = i)) → (∀ x ∈ l, x.i < ops.size) → l.Pairwise (fun x y => x.i < y.i) → l.Pairwise (fun x y => (ms.getD y.i 0).testBit x.i = true ∨ Apart ops x y) →
    wpAny P .any ops (Nrm K) fuel listed a W := by
  have emp : ∀ {l : List Step} {listed : Array Bool}, listed.size = ops.size → (∀ i, i < ops.size → (listed.getD i false = false ↔ ∃ x ∈ l, x.i = i)) → (∀ x ∈ l, x.i < ops.size) → l.Pairwise (fun x y => x.i < y.i) → Region.ready .any ops listed = [] → l = [] := by
    intro l listed hsz hl hlt hp hr
    cases l with
    | nil => rfl
    | cons x l =>
      exfalso
      have hx := hlt x List.mem_cons_self
      have hmem : x.i ∈ Region.ready .any ops listed := by
        refine mem_ready.2 ⟨?_, ops[x.i], Array.getElem?_eq_getElem hx, fun e he hb => ?_⟩
        · have h1 := (hl x.i hx).2 ⟨x, List.mem_cons_self, rfl⟩
          have h2 : listed[x.i]? = some listed[x.i] := Array.getElem?_eq_getElem (by omega)
          simp only [Array.getD_eq_getD_getElem?, h2, Option.getD_some] at h1 ⊢
          exact h1
        · have hlt2 := hback x.i _ (Array.getElem?_eq_getElem hx) e (by simpa using he) hb
          cases hq : listed.getD e.on false with
          | true => rfl
          | false =>
            obtain ⟨y, hy, hyi⟩ := (hl e.on (by omega)).1 hq
            rcases List.mem_cons.1 hy with rfl | hy
            · omega
            · cases hp with
              | cons hp1 _ => have := hp1 y hy; omega
      rw [hr] at hmem; cases hmem
  intro fuel
  induction fuel with
  | zero =>
    intro l listed s a W g hr h hf hsz hcl hl hlt hp hap
    have : l = [] := List.eq_nil_of_length_eq_zero (by omega)
    subst this
    cases hr
    refine ⟨?_, hK a W g h⟩
    cases hrd : Region.ready .any ops listed with
    | nil => rfl
    | cons i r =>
      have hm : i ∈ Region.ready .any ops listed := by rw [hrd]; exact List.mem_cons_self
      obtain ⟨h1, o, ho, _⟩ := mem_ready.1 hm
      have hi : i < ops.size := (Array.getElem?_eq_some_iff.1 ho).1
      have h2 : listed[i]? = some listed[i] := Array.getElem?_eq_getElem (by omega)
      obtain ⟨x, hx, _⟩ := (hl i hi).1 (by simp only [Array.getD_eq_getD_getElem?, h2, Option.getD_some] at h1 ⊢; exact h1)
      cases hx
  | succ fuel ih =>
    intro l listed s a W g hr h hf hsz hcl hl hlt hp hap
    refine ⟨fun h0 => ?_, fun i hm => ?_⟩
    · have := emp hsz hl hlt hp h0
      subst this
      cases hr
      exact hK a W g h
    · obtain ⟨h1, o, ho, hall⟩ := mem_ready.1 hm
      have hi : i < ops.size := (Array.getElem?_eq_some_iff.1 ho).1
      have h2 : listed[i]? = some listed[i] := Array.getElem?_eq_getElem (by omega)
      obtain ⟨x, hx, hxi⟩ := (hl i hi).1 (by simp only [Array.getD_eq_getD_getElem?, h2, Option.getD_some] at h1 ⊢; exact h1)
      obtain ⟨l1, l2, rfl⟩ := List.append_of_mem hx
      have hp1 := List.pairwise_append.1 hp
      have hap1 := List.pairwise_append.1 hap
      have hmi : ms[i]? = some (ms.getD i 0) := by simp [List.getD, List.getElem?_eq_getElem (show i < ms.length by omega)]
      have hnot : ∀ y ∈ l1, Apart ops y x := by
        intro y hy
        rcases hap1.2.2 y hy x List.mem_cons_self with q | q
        · exfalso
          rw [hxi] at q
          have hlisted := mask_listed hms hcl i o _ ho hmi (fun e he hb => hall e (by simpa using he) hb) y.i q
          have hyl := (hl y.i (hlt y (List.mem_append_left _ hy))).2 ⟨y, List.mem_append_left _ hy, rfl⟩
          rw [hlisted] at hyl; cases hyl
        · exact q
      obtain ⟨o', q1, q2, q3, q4, q5⟩ := bubble hr hnot
      rw [hxi] at q1
      have hw := stpZ_wp ht (Q := Nrm K) h q1 q2 q3 (hd _ o' q1) q4
      refine wpOp_mono (fun a' W' ⟨g', h'⟩ => ?_) hw
      have hsub : (l1 ++ l2).Sublist (l1 ++ x :: l2) := List.Sublist.append (List.Sublist.refl _) (List.sublist_cons_self _ _)
      have hne : ∀ y ∈ l1 ++ l2, y.i ≠ i := by
        intro y hy
        rcases List.mem_append.1 hy with hy | hy
        · have := hp1.2.2 y hy x List.mem_cons_self; omega
        · have h3 := hp1.2.1
          cases h3 with
          | cons h4 _ => have := h4 y hy; omega
      refine ih q5 h' (by simp at hf ⊢; omega) (by simp [hsz]) (fun k ok hk hkl e he hb => ?_) (fun k hk => ?_) (fun y hy => hlt y (hsub.subset hy)) (hp.sublist hsub) (hap.sublist hsub)
      · rw [getD_set (by omega)] at hkl ⊢
        split
        · rfl
        · split at hkl
          · rename_i hik
            subst hik
            rw [ho] at hk
            cases hk
            exact hall e (by simpa using he) hb
          · exact hcl k ok hk hkl e he hb
      · rw [getD_set (by omega)]
        constructor
        · intro hkf
          split at hkf
          · cases hkf
          · rename_i hik
            obtain ⟨y, hy, hyk⟩ := (hl k hk).1 hkf
            refine ⟨y, ?_, hyk⟩
            rcases List.mem_append.1 hy with hy | hy
            · exact List.mem_append_left _ hy
            · rcases List.mem_cons.1 hy with rfl | hy
              · exact absurd (hxi.symm.trans hyk) hik
              · exact List.mem_append_right _ hy
        · rintro ⟨y, hy, hyk⟩
          rw [if_neg (fun q => hne y hy (by rw [hyk, q]))]
          exact (hl k hk).2 ⟨y, hsub.subset hy, hyk⟩
end
end Zed
