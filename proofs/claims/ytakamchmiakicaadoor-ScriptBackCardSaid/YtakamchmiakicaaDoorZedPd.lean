/- ZED, leaves: what Zed says of a function, for a walk that calls it: arguments that are rows of data too. -/
import Derived.Test.YtakamchmiakicaaDoorZedPc
namespace Zed
open Go
set_option linter.unusedVariables false
set_option linter.unusedSimpArgs false

/-- The ground of a call that owns nothing. -/
def gF (F : Nat → Nat → Prop) : G := ⟨F, fun _ => 0, fun _ => undef⟩
/-- What Zed says of a function that is handed data, in a world whose frozen cells are told. -/
theorem FnOK.callsV {P : Program} {f : FuncId} {fn : Func} (hf : P.funcs[f]? = some fn) (hb : fn.body.isSome = true) (hname : (fn.name == "runtime.NumGoroutine") = false) {args : List V1} {o : Out} (h : FnOK P f ⟨args, [], [], 0⟩ o)
    (W : World) (F : Nat → Nat → Prop) (hF : ∀ b o, F b o → b < W.heap.size) (vs : Array Value) (hn : vs.size = args.length) (hv : ∀ (j : Nat) (v : Value) (z : V1), vs[j]? = some v → args[j]? = some z → RV W (gF F) v z) :
    Calls P f vs W fun e W' => ∃ v g, e = .returned v ∧ RowKit.Below W.heap.size W W' ∧ RZ W' g v o.val := by
  obtain ⟨c, hb⟩ := Option.isSome_iff_exists.1 hb
  obtain ⟨_, h⟩ := h
  let g : G := gF F
  let E : Ent := ⟨W, F, fun _ => False, 0, g.ρ, g.ω, 0⟩
  have hne : ¬ fn.name = "runtime.NumGoroutine" := fun e => by rw [e] at hname; revert hname; decide
  have hent : (callFunc f vs).run P W = .ok (.enter f vs) W := by simp [callFunc, hf, hne, hb]
  have := h E g W vs hn hv rfl (fun j hj => ⟨rfl, rfl⟩) rfl rfl
    ⟨fun _ _ h => (by cases h), fun _ _ _ _ h => (by cases h), fun _ _ h => (by cases h), fun _ _ h => (by cases h), fun _ _ _ _ h => (by cases h), fun _ _ h => (by cases h), fun _ _ _ _ h => (by cases h)⟩
    (fun id T xs e h1 => by cases h1)
    ⟨hF, rfl, rfl, rfl, Nat.le_refl _, fun _ _ _ => rfl, Keeps.refl _ _, fun _ _ q => .inl q⟩
  rcases this with ⟨_, hc⟩ | ⟨v, W', h1, _⟩
  · refine hc.mono ?_
    rintro e W' ⟨v, rfl, g', r1, _, _, r2, _⟩
    exact ⟨v, g', rfl, ⟨r2.os, r2.tape, r2.output, r2.size, fun b hb => r2.block b hb (fun q => q)⟩, r1⟩
  · rw [hent] at h1; cases h1
end Zed
