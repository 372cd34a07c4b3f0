/- ZED, twenty-third text: a function. -/
import Derived.Test.YtakamchmiakicaaDoorZedV
namespace Zed
open Go
set_option linter.unusedVariables false
set_option linter.unusedSimpArgs false

def argSl : Nat → List V1 → List (Nat × Z)
  | _, [] => []
  | i, v :: r => (i, .one v) :: argSl (i + 1) r
def Inn.st (i : Inn) : St := ⟨argSl 0 i.args, i.live.map fun p => (p.1, some p.2), i.bx, i.n⟩

theorem argSl_spec : ∀ {l : List V1} {i t : Nat} {z : Z}, look (argSl i l) t = some z → i ≤ t ∧ ∃ v, l[t - i]? = some v ∧ z = .one v
  | [], _, _, _, h => by cases h
  | v :: r, i, t, z, h => by
    simp only [argSl, look] at h
    split at h
    · rename_i hi; subst hi; cases h; exact ⟨Nat.le_refl _, v, by simp, rfl⟩
    · obtain ⟨h1, v', h2, h3⟩ := argSl_spec h
      refine ⟨by omega, v', ?_, h3⟩
      rw [show t - i = (t - (i + 1)) + 1 from by omega]
      simpa using h2

section
variable {P : Program}

theorem Runs.adm {rs : Array ResultVar} {nt pk n : Nat} {k : List Item} {s : St} {o : Out} (h : Runs P rs nt pk (Zed.adm n k) s o) : Runs P rs nt pk k s o := by
  intro E g a W h1 h2 ha b cs
  obtain ⟨a', W', todo, q1, q2⟩ := h E g a W h1 h2 ha b cs
  exact ⟨a', W', todo, q1, (adm_steps n k).trans q2⟩

/-- A function does what its code does. -/
theorem FnOK.of {f : FuncId} {fn : Func} {c : Code} (hf : P.funcs[f]? = some fn) (hb : fn.body = some c) (hname : (fn.name == "runtime.NumGoroutine") = false) {i : Inn} {o : Out} (hi : i.ok = true) (ho : o.ok i = true)
    (hr : Runs P fn.results fn.ntmps i.n [.code c] i.st o) : FnOK P f i o := by
  refine ⟨ho, fun E g W args hsz harg hpk hpin hW0 hF0 hHI hHR hWB => .inl ⟨?_, fun cs => ?_⟩⟩
  · have hne : ¬ fn.name = "runtime.NumGoroutine" := fun e => by rw [e] at hname; revert hname; decide
    simp [callFunc, hf, hne, hb]
  · simp only [Inn.ok, Bool.and_eq_true, List.all_eq_true, Nat.blt_eq] at hi
    obtain ⟨⟨i1, i2⟩, i3⟩ := hi
    let E' : Ent := { E with nt := fn.ntmps, df := [] }
    have hAI : AI P E' g i.st.den { tmps := args ++ Array.replicate (fn.ntmps - args.size) undef, defers := [] } W := {
      defers := rfl
      tsz := by show fn.ntmps ≤ _; simp; omega
      slots := fun t z hz => by
        obtain ⟨_, v, h1, rfl⟩ := argSl_spec hz
        simp only [Nat.sub_zero] at h1
        have hlt : t < args.size := by rw [hsz]; exact (List.getElem?_eq_some_iff.1 h1).1
        refine ⟨args[t], by simp only [Array.getElem?_append_left hlt]; exact Array.getElem?_eq_getElem hlt, ?_⟩
        exact harg t _ v (Array.getElem?_eq_getElem hlt) h1
      low := fun t z hz => by
        obtain ⟨_, v, h1, rfl⟩ := argSl_spec hz
        exact V1.low_of (i1 v (List.mem_of_getElem? h1))
      liveLow := fun l e hl => by
        have hl : lvOf (i.live.map fun p => (p.1, some p.2)) l = some e := hl
        rw [lvOf_map] at hl
        exact i2 _ (look_mem hl)
      boxLow := fun id cs hid => by
        obtain ⟨q1, q2⟩ := i3 _ (look_mem hid)
        exact ⟨q1, fun z hz => Z1.low_of (q2 z hz)⟩
      pkLow := fun j hj => by show j < i.n; rw [← hpk]; exact hj
      pin := fun j hj => hpin j (by rw [← hpk]; exact hj)
      b := ⟨hWB.fz, hWB.os, hWB.tape, hWB.output, hWB.size, hWB.block, hWB.keeps, hWB.fmay⟩
      h := by
        show HI P E' g (lvOf (i.live.map fun p => (p.1, some p.2))) (bc (look i.bx)) W
        rw [lvOf_map]
        exact ⟨hHI.own, hHI.ownNe, hHI.ownMay, hHI.box, hHI.boxNe, hHI.boxMay, hHI.boxOwn⟩
      r := by
        show HR P g (lvOf (i.live.map fun p => (p.1, some p.2))) (look i.bx) W
        rw [lvOf_map]
        exact hHR }
    let b : Frame := { (default : Frame) with fn := f, kind := .normal }
    have henter : Frame.enter P f args .normal = b.at { tmps := args ++ Array.replicate (fn.ntmps - args.size) undef, defers := [] } [.code c] := by
      simp [Frame.enter, Frame.at, hf, hb, b]
    obtain ⟨a', W', todo, ⟨hdef, v, hrun, g', r1, r2, rr, r3, r4⟩, hst⟩ := hr E' g _ W hpk rfl hAI b cs
    rw [← henter] at hst
    refine ⟨.returned v, W', _, ⟨v, rfl, g', r1, ⟨r2.own, r2.ownNe, r2.ownMay, r2.box, r2.boxNe, r2.boxMay, r2.boxOwn⟩, rr, ⟨r3.fz, r3.os, r3.tape, r3.output, r3.size, r3.block, r3.keeps, r3.fmay⟩, fun j hj => ?_⟩, hst, rfl, rfl, hdef, rfl, fn, hf, hrun⟩
    have h1 := r4 j (by rw [show E'.pk = i.n from hpk]; exact hj)
    have h2 := hpin j hj
    exact ⟨h1.1.trans h2.1.symm, h1.2.trans h2.2.symm⟩
end
end Zed
