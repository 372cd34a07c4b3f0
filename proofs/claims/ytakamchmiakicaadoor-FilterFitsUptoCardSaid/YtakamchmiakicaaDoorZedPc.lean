/- ZED, leaves: a function that another proof has walked, as one that Zed calls; and the other way round. -/
import Derived.Test.YtakamchmiakicaaDoorZedPb
import Derived.Test.YtakamchmiakicaaDoorZedZ
namespace Zed
open Go
set_option linter.unusedVariables false
set_option linter.unusedSimpArgs false

/-- Arguments that are data. -/
def dArgs (args : List X) : List V1 := args.map fun x => .c (.d x)
/-- They stand for values. -/
def RArgs (W : World) (F : Nat → Nat → Prop) (vs : Array Value) (args : List X) : Prop :=
  vs.size = args.length ∧ ∀ (j : Nat) (v : Value) (x : X), vs[j]? = some v → args[j]? = some x → RD W F v x.raw

/-- A function that only makes memory, by a walk of its own. -/
theorem FnOK.leaf {P : Program} {f : FuncId} {fn : Func} (hf : P.funcs[f]? = some fn) (hb : fn.body.isSome = true) (hname : (fn.name == "runtime.NumGoroutine") = false) {args : List X} {outs : Z} (ho : outs.lowB 0 = true)
    (h : ∀ (F : Nat → Nat → Prop) (W : World) (vs : Array Value), RArgs W F vs args → (∀ b o, F b o → b < W.heap.size) →
      Calls P f vs W fun e W' => ∃ v F', e = .returned v ∧ RowKit.Below W.heap.size W W' ∧ (∀ b o, F b o → F' b o) ∧ (∀ b o, F' b o → F b o ∨ (W.heap.size ≤ b ∧ b < W'.heap.size)) ∧ ∀ ρ ω, RZ W' ⟨F', ρ, ω⟩ v outs) :
    FnOK P f ⟨dArgs args, [], [], 0⟩ ⟨outs, [], [], 0⟩ := by
  obtain ⟨c, hb⟩ := Option.isSome_iff_exists.1 hb
  refine ⟨by simp [Out.ok, ho], fun E g W vs hsz harg hpk hpin hW0 hF0 hHI hHR hWB => .inl ⟨?_, ?_⟩⟩
  · have hne : ¬ fn.name = "runtime.NumGoroutine" := fun e => by rw [e] at hname; revert hname; decide
    simp [callFunc, hf, hne, hb]
  have hsz : vs.size = args.length := by simpa [dArgs] using hsz
  refine (h g.F W vs ⟨hsz, fun j v x h1 h2 => ?_⟩ hWB.fz).mono ?_
  · exact harg j v (.c (.d x)) h1 (by simp [dArgs, h2])
  rintro e W' ⟨v, F', rfl, hB, s1, s2, hr⟩
  have hg : Goes W W' (fun _ => False) := ⟨hB.os, hB.tape, hB.output, hB.size, fun b hb _ => hB.block b hb⟩
  have hk : Keeps g.F F' W W' := Keeps.of_goes hg (fun b o q => ⟨hWB.fz b o q, id⟩) s1
  refine ⟨v, rfl, ⟨F', g.ρ, g.ω⟩, hr _ _, ?_, ?_, ?_, fun j hj => ⟨rfl, rfl⟩⟩
  · exact ⟨fun _ _ h => (by cases h), fun _ _ _ _ h => (by cases h), fun _ _ h => (by cases h), fun _ _ h => (by cases h), fun _ _ _ _ h => (by cases h), fun _ _ h => (by cases h), fun _ _ _ _ h => (by cases h)⟩
  · intro id T xs e h1; cases h1
  · exact hWB.goes hg (fun _ => False.elim) hk (fun b o q => (s2 b o q).imp id fun q => ⟨.inr q.1, q.2⟩)

/-- The other way: what Zed says of a function that is handed plain data. -/
theorem FnOK.calls {P : Program} {f : FuncId} {fn : Func} (hf : P.funcs[f]? = some fn) (hb : fn.body.isSome = true) (hname : (fn.name == "runtime.NumGoroutine") = false) {args : List X} {o : Out} (h : FnOK P f ⟨dArgs args, [], [], 0⟩ o)
    (W : World) (vs : Array Value) (hv : RArgs W (fun _ _ => False) vs args) :
    Calls P f vs W fun e W' => ∃ v g, e = .returned v ∧ RowKit.Below W.heap.size W W' ∧ RZ W' g v o.val := by
  obtain ⟨c, hb⟩ := Option.isSome_iff_exists.1 hb
  obtain ⟨_, h⟩ := h
  let g : G := ⟨fun _ _ => False, fun _ => 0, fun _ => undef⟩
  let E : Ent := ⟨W, fun _ _ => False, fun _ => False, 0, g.ρ, g.ω, 0, []⟩
  have hne : ¬ fn.name = "runtime.NumGoroutine" := fun e => by rw [e] at hname; revert hname; decide
  have hent : (callFunc f vs).run P W = .ok (.enter f vs) W := by simp [callFunc, hf, hne, hb]
  have := h E g W vs (by simpa [dArgs] using hv.1) (fun j v z h1 h2 => by
      simp only [dArgs, List.getElem?_map, Option.map_eq_some_iff] at h2
      obtain ⟨x, h2, rfl⟩ := h2
      exact hv.2 j v x h1 h2) rfl (fun j hj => ⟨rfl, rfl⟩) rfl rfl
    ⟨fun _ _ h => (by cases h), fun _ _ _ _ h => (by cases h), fun _ _ h => (by cases h), fun _ _ h => (by cases h), fun _ _ _ _ h => (by cases h), fun _ _ h => (by cases h), fun _ _ _ _ h => (by cases h)⟩
    (fun id T xs e h1 => by cases h1)
    ⟨fun _ _ q => q.elim, rfl, rfl, rfl, Nat.le_refl _, fun _ _ _ => rfl, Keeps.refl _ _, fun _ _ q => q.elim⟩
  rcases this with ⟨_, hc⟩ | ⟨v, W', h1, _⟩
  · refine hc.mono ?_
    rintro e W' ⟨v, rfl, g', r1, _, _, r2, _⟩
    exact ⟨v, g', rfl, ⟨r2.os, r2.tape, r2.output, r2.size, fun b hb => r2.block b hb (fun q => q)⟩, r1⟩
  · rw [hent] at h1; cases h1
theorem rargs_nil {W : World} {F : Nat → Nat → Prop} : RArgs W F #[] [] := ⟨rfl, fun j v x h => by simp at h⟩
theorem rargs1 {W : World} {F : Nat → Nat → Prop} {u : Value} {x : X} (h : RD W F u x.raw) : RArgs W F #[u] [x] :=
  ⟨rfl, fun j v y h1 h2 => by
    match j with
    | 0 => simp at h1 h2; subst h1; subst h2; exact h
    | j + 1 => simp at h2⟩
theorem rargs2 {W : World} {F : Nat → Nat → Prop} {u u' : Value} {x x' : X} (h : RD W F u x.raw) (h' : RD W F u' x'.raw) : RArgs W F #[u, u'] [x, x'] :=
  ⟨rfl, fun j v y h1 h2 => by
    match j with
    | 0 => simp at h1 h2; subst h1; subst h2; exact h
    | 1 => simp at h1 h2; subst h1; subst h2; exact h'
    | j + 2 => simp at h2⟩
theorem RArgs.one {W : World} {F : Nat → Nat → Prop} {vs : Array Value} {x : X} (h : RArgs W F vs [x]) : ∃ u, vs = #[u] ∧ RD W F u x.raw := by
  obtain ⟨h1, h2⟩ := h
  obtain ⟨l⟩ := vs
  match l with
  | [u] => exact ⟨u, rfl, h2 0 u x (by simp) (by simp)⟩
  | [] => simp at h1
  | _ :: _ :: _ => simp at h1
theorem RArgs.two {W : World} {F : Nat → Nat → Prop} {vs : Array Value} {x y : X} (h : RArgs W F vs [x, y]) : ∃ u v, vs = #[u, v] ∧ RD W F u x.raw ∧ RD W F v y.raw := by
  obtain ⟨h1, h2⟩ := h
  obtain ⟨l⟩ := vs
  match l with
  | [u, v] => exact ⟨u, v, rfl, h2 0 u x (by simp) (by simp), h2 1 v y (by simp) (by simp)⟩
  | [] => simp at h1
  | [_] => simp at h1
  | _ :: _ :: _ :: _ => simp at h1
end Zed
