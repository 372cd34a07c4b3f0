/- What the functions compute, and that they do: printed by a program of this session (zgen.py), proved by Zed. -/
import Derived.Test.YtakamchmiakicaaDoorF35x0
namespace Go.Proofs.YtakamchmiakicaaDoorF35
open Go Zed Go.Proofs.YtakamchmiakicaaDoorLeaf Go.Proofs.YtakamchmiakicaaDoorDfr
set_option maxRecDepth 100000
set_option linter.unusedVariables false
/-! brougham/broughamref35.own -/
def f88_broughamref35_own_in (f_0 : Int) (f_1 : Int) (f_2 : List (Int × Int × List FT)) : Inn := ⟨[.agg [zi f_0, zi f_1, .d (.sl (.pair (.int .i64) (.pair (.int .i64) .wood)) f_2)]], [], [], 0⟩
def f88_broughamref35_own_out (r : Bool) : Out := ⟨oc (.d (.bool r)), [], [], 0⟩
def f88_broughamref35_own_L15 : Nat → Int → Int → Int → (List (Int × Int × List FT)) → Option (Bool)
  | 0, _, _, _, _ => none
  | n + 1, t21, f_0, f_1, f_2 =>
    if ((t21 : Int) == 6) = true then
      if (decide ((f_1 : Int) ≥ 1)) = true then
        some ((decide ((f_1 : Int) ≤ 255)))
      else
        some (false)
    else
      if ((t21 : Int) == 7) = true then
        if (decide ((f_1 : Int) ≥ 0)) = true then
          some ((decide ((f_1 : Int) ≤ 2147483647)))
        else
          some (false)
      else
        if ((f_1 : Int) == 0) = true then
          if (decide ((f_0 : Int) ≥ 1)) = true then
            some ((decide ((f_0 : Int) ≤ 11)))
          else
            some (false)
        else
          some (false)
def f88_broughamref35_own_L15_k (e : Bool) (o : Out) : Prop := o = f88_broughamref35_own_out e
theorem f88_broughamref35_own_L15_ok (n : Nat) : ∀ (t21 : Int) (f_0 : Int) (f_1 : Int) (f_2 : List (Int × Int × List FT)) (w : Bool) (h : f88_broughamref35_own_L15 n t21 f_0 f_1 f_2 = some w) (o : Out) (hk : f88_broughamref35_own_L15_k w o), At Tryd.prog Tryd.f88 0 15 ⟨[(1, oc (.ptr 0 0)), (21, oc (zi t21))], [], [(0, [zi f_0, zi f_1, .d (.sl (.pair (.int .i64) (.pair (.int .i64) .wood)) f_2)])], 1⟩ o := by
  induction n with
  | zero => intro t21 f_0 f_1 f_2 w h; rw [f88_broughamref35_own_L15] at h; cases h
  | succ n ih =>
    intro t21 f_0 f_1 f_2 w h o hk
    rw [f88_broughamref35_own_L15] at h
    rcases iteS h with ⟨b469_e0, h⟩ | ⟨b469_e0, h⟩
    · refine At.step hm ht ⟨[], [true], [], [1], [0]⟩ 16 ⟨[(1, oc (.ptr 0 0))], [], [(0, [zi f_0, zi f_1, .d (.sl (.pair (.int .i64) (.pair (.int .i64) .wood)) f_2)])], 1⟩ [((t21 : Int) == 6) = true] (by kernel_rfl) ⟨b469_e0, trivial⟩ ?_
      rcases iteS h with ⟨b470_3, h⟩ | ⟨b470_3, h⟩
      · have h := Option.some.inj h
        subst h
        have hk : o = f88_broughamref35_own_out (decide ((f_1 : Int) ≤ 255)) := hk
        subst hk
        exact At.fin hm ht ⟨[(3, .b true)], [], [], [2], []⟩ [(decide ((f_1 : Int) ≥ 1)) = true] (by kernel_rfl) ⟨b470_3, trivial⟩
      · have h := Option.some.inj h
        subst h
        have hk : o = f88_broughamref35_own_out false := hk
        subst hk
        exact At.fin hm ht ⟨[(3, .b false)], [], [], [2], []⟩ [(decide ((f_1 : Int) ≥ 1)) = false] (by kernel_rfl) ⟨b470_3, trivial⟩
    · refine At.step hm ht ⟨[], [false], [], [1, 21], [0]⟩ 17 ⟨[(1, oc (.ptr 0 0)), (21, oc (zi t21))], [], [(0, [zi f_0, zi f_1, .d (.sl (.pair (.int .i64) (.pair (.int .i64) .wood)) f_2)])], 1⟩ [((t21 : Int) == 6) = false] (by kernel_rfl) ⟨b469_e0, trivial⟩ ?_
      rcases iteS h with ⟨b471_e0, h⟩ | ⟨b471_e0, h⟩
      · refine At.step hm ht ⟨[], [true], [], [1], [0]⟩ 18 ⟨[(1, oc (.ptr 0 0))], [], [(0, [zi f_0, zi f_1, .d (.sl (.pair (.int .i64) (.pair (.int .i64) .wood)) f_2)])], 1⟩ [((t21 : Int) == 7) = true] (by kernel_rfl) ⟨b471_e0, trivial⟩ ?_
        rcases iteS h with ⟨b472_3, h⟩ | ⟨b472_3, h⟩
        · have h := Option.some.inj h
          subst h
          have hk : o = f88_broughamref35_own_out (decide ((f_1 : Int) ≤ 2147483647)) := hk
          subst hk
          exact At.fin hm ht ⟨[(3, .b true)], [], [], [2], []⟩ [(decide ((f_1 : Int) ≥ 0)) = true] (by kernel_rfl) ⟨b472_3, trivial⟩
        · have h := Option.some.inj h
          subst h
          have hk : o = f88_broughamref35_own_out false := hk
          subst hk
          exact At.fin hm ht ⟨[(3, .b false)], [], [], [2], []⟩ [(decide ((f_1 : Int) ≥ 0)) = false] (by kernel_rfl) ⟨b472_3, trivial⟩
      · refine At.step hm ht ⟨[], [false], [], [1], [0]⟩ 19 ⟨[(1, oc (.ptr 0 0))], [], [(0, [zi f_0, zi f_1, .d (.sl (.pair (.int .i64) (.pair (.int .i64) .wood)) f_2)])], 1⟩ [((t21 : Int) == 7) = false] (by kernel_rfl) ⟨b471_e0, trivial⟩ ?_
        rcases iteS h with ⟨b473_3, h⟩ | ⟨b473_3, h⟩
        · rcases iteS h with ⟨b473_8, h⟩ | ⟨b473_8, h⟩
          · have h := Option.some.inj h
            subst h
            have hk : o = f88_broughamref35_own_out (decide ((f_0 : Int) ≤ 11)) := hk
            subst hk
            exact At.fin hm ht ⟨[(3, .b true), (8, .b true)], [], [], [2], []⟩ [((f_1 : Int) == 0) = true, (decide ((f_0 : Int) ≥ 1)) = true] (by kernel_rfl) ⟨b473_3, b473_8, trivial⟩
          · have h := Option.some.inj h
            subst h
            have hk : o = f88_broughamref35_own_out false := hk
            subst hk
            exact At.fin hm ht ⟨[(3, .b true), (8, .b false)], [], [], [2], []⟩ [((f_1 : Int) == 0) = true, (decide ((f_0 : Int) ≥ 1)) = false] (by kernel_rfl) ⟨b473_3, b473_8, trivial⟩
        · have h := Option.some.inj h
          subst h
          have hk : o = f88_broughamref35_own_out false := hk
          subst hk
          exact At.fin hm ht ⟨[(3, .b false)], [], [], [2], []⟩ [((f_1 : Int) == 0) = false] (by kernel_rfl) ⟨b473_3, trivial⟩
def f88_broughamref35_own_L6 : Nat → Int → Int → Int → (List (Int × Int × List FT)) → Option (Bool)
  | 0, _, _, _, _ => none
  | n + 1, below, f_0, f_1, f_2 =>
    if ((((f_2.length : Nat) : Int) : Int) != below) = true then
      some (false)
    else
      if ((f_0 : Int) == 2) = true then
        if ((f_1 : Int) == 1) = true then
          some (true)
        else
          if ((f_1 : Int) == 2) = true then
            some (true)
          else
            some (((f_1 : Int) == 4))
      else
        if ((f_0 : Int) == 3) = true then
          if ((f_0 : Int) == 3) = true then
            if (decide ((f_1 : Int) ≥ 0)) = true then
              some ((decide ((f_1 : Int) ≤ 65535)))
            else
              some (false)
          else
            (f88_broughamref35_own_L15 n f_0 f_0 f_1 f_2).bind fun w474 =>
            some (w474)
        else
          if ((f_0 : Int) == 4) = true then
            if ((f_0 : Int) == 4) = true then
              if (decide ((f_1 : Int) ≥ 0)) = true then
                some ((decide ((f_1 : Int) ≤ 65535)))
              else
                some (false)
            else
              (f88_broughamref35_own_L15 n f_0 f_0 f_1 f_2).bind fun w478 =>
              some (w478)
          else
            if ((f_0 : Int) == 5) = true then
              if (decide ((f_1 : Int) ≥ 0)) = true then
                some ((decide ((f_1 : Int) ≤ 65535)))
              else
                some (false)
            else
              (f88_broughamref35_own_L15 n f_0 f_0 f_1 f_2).bind fun w482 =>
              some (w482)
def f88_broughamref35_own_L6_k (e : Bool) (o : Out) : Prop := o = f88_broughamref35_own_out e
theorem f88_broughamref35_own_L6_ok (n : Nat) : ∀ (below : Int) (f_0 : Int) (f_1 : Int) (f_2 : List (Int × Int × List FT)) (w : Bool) (h : f88_broughamref35_own_L6 n below f_0 f_1 f_2 = some w) (o : Out) (hk : f88_broughamref35_own_L6_k w o), At Tryd.prog Tryd.f88 0 6 ⟨[(1, oc (.ptr 0 0)), (3, oc (zi below))], [], [(0, [zi f_0, zi f_1, .d (.sl (.pair (.int .i64) (.pair (.int .i64) .wood)) f_2)])], 1⟩ o := by
  induction n with
  | zero => intro below f_0 f_1 f_2 w h; rw [f88_broughamref35_own_L6] at h; cases h
  | succ n ih =>
    intro below f_0 f_1 f_2 w h o hk
    rw [f88_broughamref35_own_L6] at h
    rcases iteS h with ⟨b462_e0, h⟩ | ⟨b462_e0, h⟩
    · refine At.step hm ht ⟨[], [true], [], [], []⟩ 7 ⟨[], [], [], 0⟩ [((((f_2.length : Nat) : Int) : Int) != below) = true] (by kernel_rfl) ⟨b462_e0, trivial⟩ ?_
      have h := Option.some.inj h
      subst h
      have hk : o = f88_broughamref35_own_out false := hk
      subst hk
      exact At.fin hm ht ⟨[], [], [], [2], []⟩ [] (by kernel_rfl) trivial
    · refine At.step hm ht ⟨[], [false], [], [1], [0]⟩ 8 ⟨[(1, oc (.ptr 0 0))], [], [(0, [zi f_0, zi f_1, .d (.sl (.pair (.int .i64) (.pair (.int .i64) .wood)) f_2)])], 1⟩ [((((f_2.length : Nat) : Int) : Int) != below) = false] (by kernel_rfl) ⟨b462_e0, trivial⟩ ?_
      refine At.step hm ht ⟨[], [], [], [1, 21], [0]⟩ 9 ⟨[(1, oc (.ptr 0 0)), (21, oc (zi f_0))], [], [(0, [zi f_0, zi f_1, .d (.sl (.pair (.int .i64) (.pair (.int .i64) .wood)) f_2)])], 1⟩ [] (by kernel_rfl) trivial ?_
      rcases iteS h with ⟨b465_e0, h⟩ | ⟨b465_e0, h⟩
      · refine At.step hm ht ⟨[], [true], [], [1], [0]⟩ 10 ⟨[(1, oc (.ptr 0 0))], [], [(0, [zi f_0, zi f_1, .d (.sl (.pair (.int .i64) (.pair (.int .i64) .wood)) f_2)])], 1⟩ [((f_0 : Int) == 2) = true] (by kernel_rfl) ⟨b465_e0, trivial⟩ ?_
        rcases iteS h with ⟨b466_3, h⟩ | ⟨b466_3, h⟩
        · have h := Option.some.inj h
          subst h
          have hk : o = f88_broughamref35_own_out true := hk
          subst hk
          exact At.fin hm ht ⟨[(3, .b true)], [], [], [2], []⟩ [((f_1 : Int) == 1) = true] (by kernel_rfl) ⟨b466_3, trivial⟩
        · rcases iteS h with ⟨b466_8, h⟩ | ⟨b466_8, h⟩
          · have h := Option.some.inj h
            subst h
            have hk : o = f88_broughamref35_own_out true := hk
            subst hk
            exact At.fin hm ht ⟨[(3, .b false), (8, .b true)], [], [], [2], []⟩ [((f_1 : Int) == 1) = false, ((f_1 : Int) == 2) = true] (by kernel_rfl) ⟨b466_3, b466_8, trivial⟩
          · have h := Option.some.inj h
            subst h
            have hk : o = f88_broughamref35_own_out ((f_1 : Int) == 4) := hk
            subst hk
            exact At.fin hm ht ⟨[(3, .b false), (8, .b false)], [], [], [2], []⟩ [((f_1 : Int) == 1) = false, ((f_1 : Int) == 2) = false] (by kernel_rfl) ⟨b466_3, b466_8, trivial⟩
      · refine At.step hm ht ⟨[], [false], [], [1, 21], [0]⟩ 11 ⟨[(1, oc (.ptr 0 0)), (21, oc (zi f_0))], [], [(0, [zi f_0, zi f_1, .d (.sl (.pair (.int .i64) (.pair (.int .i64) .wood)) f_2)])], 1⟩ [((f_0 : Int) == 2) = false] (by kernel_rfl) ⟨b465_e0, trivial⟩ ?_
        rcases iteS h with ⟨b467_e0, h⟩ | ⟨b467_e0, h⟩
        · rcases iteS h with ⟨b467_e1, h⟩ | ⟨b467_e1, h⟩
          · refine At.step hm ht ⟨[], [true, true], [], [1], [0]⟩ 14 ⟨[(1, oc (.ptr 0 0))], [], [(0, [zi f_0, zi f_1, .d (.sl (.pair (.int .i64) (.pair (.int .i64) .wood)) f_2)])], 1⟩ [((f_0 : Int) == 3) = true, ((f_0 : Int) == 3) = true] (by kernel_rfl) ⟨b467_e0, b467_e1, trivial⟩ ?_
            rcases iteS h with ⟨b468_3, h⟩ | ⟨b468_3, h⟩
            · have h := Option.some.inj h
              subst h
              have hk : o = f88_broughamref35_own_out (decide ((f_1 : Int) ≤ 65535)) := hk
              subst hk
              exact At.fin hm ht ⟨[(3, .b true)], [], [], [2], []⟩ [(decide ((f_1 : Int) ≥ 0)) = true] (by kernel_rfl) ⟨b468_3, trivial⟩
            · have h := Option.some.inj h
              subst h
              have hk : o = f88_broughamref35_own_out false := hk
              subst hk
              exact At.fin hm ht ⟨[(3, .b false)], [], [], [2], []⟩ [(decide ((f_1 : Int) ≥ 0)) = false] (by kernel_rfl) ⟨b468_3, trivial⟩
          · refine At.step hm ht ⟨[], [true, false], [], [1, 21], [0]⟩ 15 ⟨[(1, oc (.ptr 0 0)), (21, oc (zi f_0))], [], [(0, [zi f_0, zi f_1, .d (.sl (.pair (.int .i64) (.pair (.int .i64) .wood)) f_2)])], 1⟩ [((f_0 : Int) == 3) = true, ((f_0 : Int) == 3) = false] (by kernel_rfl) ⟨b467_e0, b467_e1, trivial⟩ ?_
            obtain ⟨w474, cw474, h⟩ := bindS h
            refine f88_broughamref35_own_L15_ok n f_0 f_0 f_1 f_2 w474 cw474 _ ?_
            have h := Option.some.inj h
            subst h
            exact hk
        · refine At.step hm ht ⟨[], [false], [], [1, 21], [0]⟩ 12 ⟨[(1, oc (.ptr 0 0)), (21, oc (zi f_0))], [], [(0, [zi f_0, zi f_1, .d (.sl (.pair (.int .i64) (.pair (.int .i64) .wood)) f_2)])], 1⟩ [((f_0 : Int) == 3) = false] (by kernel_rfl) ⟨b467_e0, trivial⟩ ?_
          rcases iteS h with ⟨b476_e0, h⟩ | ⟨b476_e0, h⟩
          · rcases iteS h with ⟨b476_e1, h⟩ | ⟨b476_e1, h⟩
            · refine At.step hm ht ⟨[], [true, true], [], [1], [0]⟩ 14 ⟨[(1, oc (.ptr 0 0))], [], [(0, [zi f_0, zi f_1, .d (.sl (.pair (.int .i64) (.pair (.int .i64) .wood)) f_2)])], 1⟩ [((f_0 : Int) == 4) = true, ((f_0 : Int) == 4) = true] (by kernel_rfl) ⟨b476_e0, b476_e1, trivial⟩ ?_
              rcases iteS h with ⟨b477_3, h⟩ | ⟨b477_3, h⟩
              · have h := Option.some.inj h
                subst h
                have hk : o = f88_broughamref35_own_out (decide ((f_1 : Int) ≤ 65535)) := hk
                subst hk
                exact At.fin hm ht ⟨[(3, .b true)], [], [], [2], []⟩ [(decide ((f_1 : Int) ≥ 0)) = true] (by kernel_rfl) ⟨b477_3, trivial⟩
              · have h := Option.some.inj h
                subst h
                have hk : o = f88_broughamref35_own_out false := hk
                subst hk
                exact At.fin hm ht ⟨[(3, .b false)], [], [], [2], []⟩ [(decide ((f_1 : Int) ≥ 0)) = false] (by kernel_rfl) ⟨b477_3, trivial⟩
            · refine At.step hm ht ⟨[], [true, false], [], [1, 21], [0]⟩ 15 ⟨[(1, oc (.ptr 0 0)), (21, oc (zi f_0))], [], [(0, [zi f_0, zi f_1, .d (.sl (.pair (.int .i64) (.pair (.int .i64) .wood)) f_2)])], 1⟩ [((f_0 : Int) == 4) = true, ((f_0 : Int) == 4) = false] (by kernel_rfl) ⟨b476_e0, b476_e1, trivial⟩ ?_
              obtain ⟨w478, cw478, h⟩ := bindS h
              refine f88_broughamref35_own_L15_ok n f_0 f_0 f_1 f_2 w478 cw478 _ ?_
              have h := Option.some.inj h
              subst h
              exact hk
          · refine At.step hm ht ⟨[], [false], [], [1, 21], [0]⟩ 13 ⟨[(1, oc (.ptr 0 0)), (21, oc (zi f_0))], [], [(0, [zi f_0, zi f_1, .d (.sl (.pair (.int .i64) (.pair (.int .i64) .wood)) f_2)])], 1⟩ [((f_0 : Int) == 4) = false] (by kernel_rfl) ⟨b476_e0, trivial⟩ ?_
            rcases iteS h with ⟨b480_e0, h⟩ | ⟨b480_e0, h⟩
            · refine At.step hm ht ⟨[], [true], [], [1], [0]⟩ 14 ⟨[(1, oc (.ptr 0 0))], [], [(0, [zi f_0, zi f_1, .d (.sl (.pair (.int .i64) (.pair (.int .i64) .wood)) f_2)])], 1⟩ [((f_0 : Int) == 5) = true] (by kernel_rfl) ⟨b480_e0, trivial⟩ ?_
              rcases iteS h with ⟨b481_3, h⟩ | ⟨b481_3, h⟩
              · have h := Option.some.inj h
                subst h
                have hk : o = f88_broughamref35_own_out (decide ((f_1 : Int) ≤ 65535)) := hk
                subst hk
                exact At.fin hm ht ⟨[(3, .b true)], [], [], [2], []⟩ [(decide ((f_1 : Int) ≥ 0)) = true] (by kernel_rfl) ⟨b481_3, trivial⟩
              · have h := Option.some.inj h
                subst h
                have hk : o = f88_broughamref35_own_out false := hk
                subst hk
                exact At.fin hm ht ⟨[(3, .b false)], [], [], [2], []⟩ [(decide ((f_1 : Int) ≥ 0)) = false] (by kernel_rfl) ⟨b481_3, trivial⟩
            · refine At.step hm ht ⟨[], [false], [], [1, 21], [0]⟩ 15 ⟨[(1, oc (.ptr 0 0)), (21, oc (zi f_0))], [], [(0, [zi f_0, zi f_1, .d (.sl (.pair (.int .i64) (.pair (.int .i64) .wood)) f_2)])], 1⟩ [((f_0 : Int) == 5) = false] (by kernel_rfl) ⟨b480_e0, trivial⟩ ?_
              obtain ⟨w482, cw482, h⟩ := bindS h
              refine f88_broughamref35_own_L15_ok n f_0 f_0 f_1 f_2 w482 cw482 _ ?_
              have h := Option.some.inj h
              subst h
              exact hk
def f88_broughamref35_own (n : Nat) (f_0 : Int) (f_1 : Int) (f_2 : List (Int × Int × List FT)) : Option (Bool) :=
  if ((f_0 : Int) == 8) = true then
    if ((f_0 : Int) == 9) = true then
      (f88_broughamref35_own_L6 n 2 f_0 f_1 f_2).bind fun w484 =>
      some w484
    else
      if ((f_0 : Int) == 10) = true then
        (f88_broughamref35_own_L6 n 2 f_0 f_1 f_2).bind fun w487 =>
        some w487
      else
        (f88_broughamref35_own_L6 n 1 f_0 f_1 f_2).bind fun w489 =>
        some w489
  else
    if ((f_0 : Int) == 9) = true then
      (f88_broughamref35_own_L6 n 2 f_0 f_1 f_2).bind fun w493 =>
      some w493
    else
      if ((f_0 : Int) == 10) = true then
        (f88_broughamref35_own_L6 n 2 f_0 f_1 f_2).bind fun w496 =>
        some w496
      else
        (f88_broughamref35_own_L6 n 0 f_0 f_1 f_2).bind fun w498 =>
        some w498
theorem f88_broughamref35_own_ok (n : Nat) (f_0 : Int) (f_1 : Int) (f_2 : List (Int × Int × List FT)) (r : Bool) (h : f88_broughamref35_own n f_0 f_1 f_2 = some r) : FnOK Tryd.prog 88 (f88_broughamref35_own_in f_0 f_1 f_2) (f88_broughamref35_own_out r) := by
  unfold f88_broughamref35_own at h
  refine At.fn (r := 0) Tryd.func88 rfl (by kernel_rfl) rfl rfl (by kernel_rfl) ?_
  show At Tryd.prog Tryd.f88 0 0 ⟨[(0, .one (.agg [zi f_0, zi f_1, .d (.sl (.pair (.int .i64) (.pair (.int .i64) .wood)) f_2)]))], [], [], 0⟩ _
  refine At.step hm ht ⟨[], [], [], [1], [0]⟩ 1 ⟨[(1, oc (.ptr 0 0))], [], [(0, [zi f_0, zi f_1, .d (.sl (.pair (.int .i64) (.pair (.int .i64) .wood)) f_2)])], 1⟩ [] (by kernel_rfl) trivial ?_
  refine At.step hm ht ⟨[], [], [], [1, 3], [0]⟩ 2 ⟨[(1, oc (.ptr 0 0)), (3, oc (zi 0))], [], [(0, [zi f_0, zi f_1, .d (.sl (.pair (.int .i64) (.pair (.int .i64) .wood)) f_2)])], 1⟩ [] (by kernel_rfl) trivial ?_
  rcases iteS h with ⟨b458_e0, h⟩ | ⟨b458_e0, h⟩
  · refine At.step hm ht ⟨[], [true], [], [1], [0]⟩ 3 ⟨[(1, oc (.ptr 0 0))], [], [(0, [zi f_0, zi f_1, .d (.sl (.pair (.int .i64) (.pair (.int .i64) .wood)) f_2)])], 1⟩ [((f_0 : Int) == 8) = true] (by kernel_rfl) ⟨b458_e0, trivial⟩ ?_
    refine At.step hm ht ⟨[], [], [], [1, 3], [0]⟩ 4 ⟨[(1, oc (.ptr 0 0)), (3, oc (zi 1))], [], [(0, [zi f_0, zi f_1, .d (.sl (.pair (.int .i64) (.pair (.int .i64) .wood)) f_2)])], 1⟩ [] (by kernel_rfl) trivial ?_
    rcases iteS h with ⟨b460_3, h⟩ | ⟨b460_3, h⟩
    · refine At.step hm ht ⟨[(3, .b true)], [true], [], [1], [0]⟩ 5 ⟨[(1, oc (.ptr 0 0))], [], [(0, [zi f_0, zi f_1, .d (.sl (.pair (.int .i64) (.pair (.int .i64) .wood)) f_2)])], 1⟩ [((f_0 : Int) == 9) = true, true = true] (by kernel_rfl) ⟨b460_3, rfl, trivial⟩ ?_
      refine At.step hm ht ⟨[], [], [], [1, 3], [0]⟩ 6 ⟨[(1, oc (.ptr 0 0)), (3, oc (zi 2))], [], [(0, [zi f_0, zi f_1, .d (.sl (.pair (.int .i64) (.pair (.int .i64) .wood)) f_2)])], 1⟩ [] (by kernel_rfl) trivial ?_
      obtain ⟨w484, cw484, h⟩ := bindS h
      refine f88_broughamref35_own_L6_ok n 2 f_0 f_1 f_2 w484 cw484 _ ?_
      have h := Option.some.inj h
      subst h
      rfl
    · rcases iteS h with ⟨b460_e0, h⟩ | ⟨b460_e0, h⟩
      · refine At.step hm ht ⟨[(3, .b false)], [true], [], [1], [0]⟩ 5 ⟨[(1, oc (.ptr 0 0))], [], [(0, [zi f_0, zi f_1, .d (.sl (.pair (.int .i64) (.pair (.int .i64) .wood)) f_2)])], 1⟩ [((f_0 : Int) == 9) = false, ((f_0 : Int) == 10) = true] (by kernel_rfl) ⟨b460_3, b460_e0, trivial⟩ ?_
        refine At.step hm ht ⟨[], [], [], [1, 3], [0]⟩ 6 ⟨[(1, oc (.ptr 0 0)), (3, oc (zi 2))], [], [(0, [zi f_0, zi f_1, .d (.sl (.pair (.int .i64) (.pair (.int .i64) .wood)) f_2)])], 1⟩ [] (by kernel_rfl) trivial ?_
        obtain ⟨w487, cw487, h⟩ := bindS h
        refine f88_broughamref35_own_L6_ok n 2 f_0 f_1 f_2 w487 cw487 _ ?_
        have h := Option.some.inj h
        subst h
        rfl
      · refine At.step hm ht ⟨[(3, .b false)], [false], [], [1, 3], [0]⟩ 6 ⟨[(1, oc (.ptr 0 0)), (3, oc (zi 1))], [], [(0, [zi f_0, zi f_1, .d (.sl (.pair (.int .i64) (.pair (.int .i64) .wood)) f_2)])], 1⟩ [((f_0 : Int) == 9) = false, ((f_0 : Int) == 10) = false] (by kernel_rfl) ⟨b460_3, b460_e0, trivial⟩ ?_
        obtain ⟨w489, cw489, h⟩ := bindS h
        refine f88_broughamref35_own_L6_ok n 1 f_0 f_1 f_2 w489 cw489 _ ?_
        have h := Option.some.inj h
        subst h
        rfl
  · refine At.step hm ht ⟨[], [false], [], [1, 3], [0]⟩ 4 ⟨[(1, oc (.ptr 0 0)), (3, oc (zi 0))], [], [(0, [zi f_0, zi f_1, .d (.sl (.pair (.int .i64) (.pair (.int .i64) .wood)) f_2)])], 1⟩ [((f_0 : Int) == 8) = false] (by kernel_rfl) ⟨b458_e0, trivial⟩ ?_
    rcases iteS h with ⟨b491_3, h⟩ | ⟨b491_3, h⟩
    · refine At.step hm ht ⟨[(3, .b true)], [true], [], [1], [0]⟩ 5 ⟨[(1, oc (.ptr 0 0))], [], [(0, [zi f_0, zi f_1, .d (.sl (.pair (.int .i64) (.pair (.int .i64) .wood)) f_2)])], 1⟩ [((f_0 : Int) == 9) = true, true = true] (by kernel_rfl) ⟨b491_3, rfl, trivial⟩ ?_
      refine At.step hm ht ⟨[], [], [], [1, 3], [0]⟩ 6 ⟨[(1, oc (.ptr 0 0)), (3, oc (zi 2))], [], [(0, [zi f_0, zi f_1, .d (.sl (.pair (.int .i64) (.pair (.int .i64) .wood)) f_2)])], 1⟩ [] (by kernel_rfl) trivial ?_
      obtain ⟨w493, cw493, h⟩ := bindS h
      refine f88_broughamref35_own_L6_ok n 2 f_0 f_1 f_2 w493 cw493 _ ?_
      have h := Option.some.inj h
      subst h
      rfl
    · rcases iteS h with ⟨b491_e0, h⟩ | ⟨b491_e0, h⟩
      · refine At.step hm ht ⟨[(3, .b false)], [true], [], [1], [0]⟩ 5 ⟨[(1, oc (.ptr 0 0))], [], [(0, [zi f_0, zi f_1, .d (.sl (.pair (.int .i64) (.pair (.int .i64) .wood)) f_2)])], 1⟩ [((f_0 : Int) == 9) = false, ((f_0 : Int) == 10) = true] (by kernel_rfl) ⟨b491_3, b491_e0, trivial⟩ ?_
        refine At.step hm ht ⟨[], [], [], [1, 3], [0]⟩ 6 ⟨[(1, oc (.ptr 0 0)), (3, oc (zi 2))], [], [(0, [zi f_0, zi f_1, .d (.sl (.pair (.int .i64) (.pair (.int .i64) .wood)) f_2)])], 1⟩ [] (by kernel_rfl) trivial ?_
        obtain ⟨w496, cw496, h⟩ := bindS h
        refine f88_broughamref35_own_L6_ok n 2 f_0 f_1 f_2 w496 cw496 _ ?_
        have h := Option.some.inj h
        subst h
        rfl
      · refine At.step hm ht ⟨[(3, .b false)], [false], [], [1, 3], [0]⟩ 6 ⟨[(1, oc (.ptr 0 0)), (3, oc (zi 0))], [], [(0, [zi f_0, zi f_1, .d (.sl (.pair (.int .i64) (.pair (.int .i64) .wood)) f_2)])], 1⟩ [((f_0 : Int) == 9) = false, ((f_0 : Int) == 10) = false] (by kernel_rfl) ⟨b491_3, b491_e0, trivial⟩ ?_
        obtain ⟨w498, cw498, h⟩ := bindS h
        refine f88_broughamref35_own_L6_ok n 0 f_0 f_1 f_2 w498 cw498 _ ?_
        have h := Option.some.inj h
        subst h
        rfl
/-! brougham/broughamref35.all -/
def f58_broughamref35_all_in (f_0 : Int) (f_1 : Int) (f_2 : List (Int × Int × List FT)) : Inn := ⟨[.agg [zi f_0, zi f_1, .d (.sl (.pair (.int .i64) (.pair (.int .i64) .wood)) f_2)]], [], [], 0⟩
def f58_broughamref35_all_out (r : Bool) : Out := ⟨oc (.d (.bool r)), [], [], 0⟩
def f58_broughamref35_all_L2 (rc_f58_broughamref35_all : Int → Int → (List (Int × Int × List FT)) → Option (Bool)) : Nat → Int → Int → Int → (List (Int × Int × List FT)) → Option ((Bool) ⊕ (Int × Int × List (Int × Int × List FT)))
  | 0, _, _, _, _ => none
  | n + 1, i, f_0, f_1, f_2 =>
    if (decide ((i : Int) < ((f_2.length : Nat) : Int))) = true then
      if (0 : Int) ≤ i ∧ i < (((f_2).length : Nat) : Int) then
      (rc_f58_broughamref35_all ((f_2.getD i.toNat (0, (0, []))).1) (((f_2.getD i.toNat (0, (0, []))).2).1) ((((f_2.getD i.toNat (0, (0, []))).2).2).map FT.un)).bind fun r503_1 =>
      if (!r503_1) = true then
        some (.inl false)
      else
        f58_broughamref35_all_L2 rc_f58_broughamref35_all n (IntKind.wrap .i64 (i + 1)) f_0 f_1 f_2
      else none
    else
      some (.inr ((f_0, f_1, f_2)))
def f58_broughamref35_all_L2_k (w : (Bool) ⊕ (Int × Int × List (Int × Int × List FT))) (o : Out) : Prop := match w with
  | .inl e => o = f58_broughamref35_all_out e
  | .inr e => At Tryd.prog Tryd.f58 0 6 ⟨[(1, oc (.ptr 0 0))], [], [(0, [zi e.1, zi e.2.1, .d (.sl (.pair (.int .i64) (.pair (.int .i64) .wood)) e.2.2)])], 1⟩ o
theorem f58_broughamref35_all_L2_ok (rc_f58_broughamref35_all : Int → Int → (List (Int × Int × List FT)) → Option (Bool)) (hrc_f58_broughamref35_all : ∀ (f_0 : Int) (f_1 : Int) (f_2 : List (Int × Int × List FT)) (r : Bool) (h : rc_f58_broughamref35_all f_0 f_1 f_2 = some r), FnOK Tryd.prog 58 (f58_broughamref35_all_in f_0 f_1 f_2) (f58_broughamref35_all_out r)) (n : Nat) : ∀ (i : Int) (f_0 : Int) (f_1 : Int) (f_2 : List (Int × Int × List FT)) (w : (Bool) ⊕ (Int × Int × List (Int × Int × List FT))) (h : f58_broughamref35_all_L2 rc_f58_broughamref35_all n i f_0 f_1 f_2 = some w) (o : Out) (hk : f58_broughamref35_all_L2_k w o), At Tryd.prog Tryd.f58 0 2 ⟨[(1, oc (.ptr 0 0)), (3, oc (zi i))], [], [(0, [zi f_0, zi f_1, .d (.sl (.pair (.int .i64) (.pair (.int .i64) .wood)) f_2)])], 1⟩ o := by
  induction n with
  | zero => intro i f_0 f_1 f_2 w h; rw [f58_broughamref35_all_L2] at h; cases h
  | succ n ih =>
    intro i f_0 f_1 f_2 w h o hk
    rw [f58_broughamref35_all_L2] at h
    rcases iteS h with ⟨b502_e0, h⟩ | ⟨b502_e0, h⟩
    · refine At.step hm ht ⟨[], [true], [], [1, 3], [0]⟩ 4 ⟨[(1, oc (.ptr 0 0)), (3, oc (zi i))], [], [(0, [zi f_0, zi f_1, .d (.sl (.pair (.int .i64) (.pair (.int .i64) .wood)) f_2)])], 1⟩ [(decide ((i : Int) < ((f_2.length : Nat) : Int))) = true] (by kernel_rfl) ⟨b502_e0, trivial⟩ ?_
      obtain ⟨g503_0, h⟩ := ifS h
      obtain ⟨r503_1, cr503_1, h⟩ := bindS h
      rcases iteS h with ⟨b503_e0, h⟩ | ⟨b503_e0, h⟩
      · refine At.step hm ht ⟨[(5, .call [] [] (f58_broughamref35_all_out r503_1))], [true], [], [], []⟩ 5 ⟨[], [], [], 0⟩ [(0 : Int) ≤ i ∧ i < (((f_2).length : Nat) : Int), FnOK Tryd.prog 58 (f58_broughamref35_all_in ((f_2.getD i.toNat (0, (0, []))).1) (((f_2.getD i.toNat (0, (0, []))).2).1) ((((f_2.getD i.toNat (0, (0, []))).2).2).map FT.un)) (f58_broughamref35_all_out r503_1), (!r503_1) = true] (by kernel_rfl) ⟨g503_0, (hrc_f58_broughamref35_all ((f_2.getD i.toNat (0, (0, []))).1) (((f_2.getD i.toNat (0, (0, []))).2).1) ((((f_2.getD i.toNat (0, (0, []))).2).2).map FT.un) r503_1 cr503_1), b503_e0, trivial⟩ ?_
        have h := Option.some.inj h
        subst h
        have hk : o = f58_broughamref35_all_out false := hk
        subst hk
        exact At.fin hm ht ⟨[], [], [], [2], []⟩ [] (by kernel_rfl) trivial
      · refine At.step hm ht ⟨[(5, .call [] [] (f58_broughamref35_all_out r503_1))], [false], [], [1, 3], [0]⟩ 3 ⟨[(1, oc (.ptr 0 0)), (3, oc (zi i))], [], [(0, [zi f_0, zi f_1, .d (.sl (.pair (.int .i64) (.pair (.int .i64) .wood)) f_2)])], 1⟩ [(0 : Int) ≤ i ∧ i < (((f_2).length : Nat) : Int), FnOK Tryd.prog 58 (f58_broughamref35_all_in ((f_2.getD i.toNat (0, (0, []))).1) (((f_2.getD i.toNat (0, (0, []))).2).1) ((((f_2.getD i.toNat (0, (0, []))).2).2).map FT.un)) (f58_broughamref35_all_out r503_1), (!r503_1) = false] (by kernel_rfl) ⟨g503_0, (hrc_f58_broughamref35_all ((f_2.getD i.toNat (0, (0, []))).1) (((f_2.getD i.toNat (0, (0, []))).2).1) ((((f_2.getD i.toNat (0, (0, []))).2).2).map FT.un) r503_1 cr503_1), b503_e0, trivial⟩ ?_
        refine At.step hm ht ⟨[], [], [], [1, 3], [0]⟩ 2 ⟨[(1, oc (.ptr 0 0)), (3, oc (zi (IntKind.wrap .i64 (i + 1))))], [], [(0, [zi f_0, zi f_1, .d (.sl (.pair (.int .i64) (.pair (.int .i64) .wood)) f_2)])], 1⟩ [] (by kernel_rfl) trivial ?_
        exact ih (IntKind.wrap .i64 (i + 1)) f_0 f_1 f_2 w h o hk
    · refine At.step hm ht ⟨[], [false], [], [1], [0]⟩ 6 ⟨[(1, oc (.ptr 0 0))], [], [(0, [zi f_0, zi f_1, .d (.sl (.pair (.int .i64) (.pair (.int .i64) .wood)) f_2)])], 1⟩ [(decide ((i : Int) < ((f_2.length : Nat) : Int))) = false] (by kernel_rfl) ⟨b502_e0, trivial⟩ ?_
      have h := Option.some.inj h
      subst h
      exact hk
def f58_broughamref35_all : Nat → Int → Int → (List (Int × Int × List FT)) → Option (Bool)
  | 0, _, _, _ => none
  | n + 1, f_0, f_1, f_2 =>
    (f58_broughamref35_all_L2 (f58_broughamref35_all n) n 0 f_0 f_1 f_2).bind fun w506 =>
    match w506 with
    | .inl e507 =>
      some e507
    | .inr e508 =>
      (f88_broughamref35_own n e508.1 e508.2.1 e508.2.2).bind fun r509_0 =>
      some r509_0
theorem f58_broughamref35_all_ok (n : Nat) : ∀ (f_0 : Int) (f_1 : Int) (f_2 : List (Int × Int × List FT)) (r : Bool) (h : f58_broughamref35_all n f_0 f_1 f_2 = some r), FnOK Tryd.prog 58 (f58_broughamref35_all_in f_0 f_1 f_2) (f58_broughamref35_all_out r) := by
  induction n with
  | zero => intro f_0 f_1 f_2 r h; rw [f58_broughamref35_all] at h; cases h
  | succ n ih =>
    intro f_0 f_1 f_2 r h
    rw [f58_broughamref35_all] at h
    refine At.fn (r := 0) Tryd.func58 rfl (by kernel_rfl) rfl rfl (by kernel_rfl) ?_
    show At Tryd.prog Tryd.f58 0 0 ⟨[(0, .one (.agg [zi f_0, zi f_1, .d (.sl (.pair (.int .i64) (.pair (.int .i64) .wood)) f_2)]))], [], [], 0⟩ _
    refine At.step hm ht ⟨[], [], [], [1], [0]⟩ 1 ⟨[(1, oc (.ptr 0 0))], [], [(0, [zi f_0, zi f_1, .d (.sl (.pair (.int .i64) (.pair (.int .i64) .wood)) f_2)])], 1⟩ [] (by kernel_rfl) trivial ?_
    refine At.step hm ht ⟨[], [], [], [1, 3], [0]⟩ 2 ⟨[(1, oc (.ptr 0 0)), (3, oc (zi 0))], [], [(0, [zi f_0, zi f_1, .d (.sl (.pair (.int .i64) (.pair (.int .i64) .wood)) f_2)])], 1⟩ [] (by kernel_rfl) trivial ?_
    obtain ⟨w506, cw506, h⟩ := bindS h
    refine f58_broughamref35_all_L2_ok (f58_broughamref35_all n) ih n 0 f_0 f_1 f_2 w506 cw506 _ ?_
    rcases w506 with e507 | e508
    · have h := Option.some.inj h
      subst h
      rfl
    · show At Tryd.prog Tryd.f58 0 6 ⟨[(1, oc (.ptr 0 0))], [], [(0, [zi e508.1, zi e508.2.1, .d (.sl (.pair (.int .i64) (.pair (.int .i64) .wood)) e508.2.2)])], 1⟩ _
      obtain ⟨r509_0, cr509_0, h⟩ := bindS h
      have h := Option.some.inj h
      subst h
      exact At.fin hm ht ⟨[(1, .call [] [] (f88_broughamref35_own_out r509_0))], [], [], [2], []⟩ [FnOK Tryd.prog 88 (f88_broughamref35_own_in e508.1 e508.2.1 e508.2.2) (f88_broughamref35_own_out r509_0)] (by kernel_rfl) ⟨(f88_broughamref35_own_ok n e508.1 e508.2.1 e508.2.2 r509_0 cr509_0), trivial⟩
/-! brougham/broughamref35.Right -/
def f30_broughamref35_Right_in (f_0 : Int) (f_1 : Int) (f_2 : List (Int × Int × List FT)) : Inn := ⟨[.agg [zi f_0, zi f_1, .d (.sl (.pair (.int .i64) (.pair (.int .i64) .wood)) f_2)]], [], [], 0⟩
def f30_broughamref35_Right_out (r : Bool) : Out := ⟨oc (.d (.bool r)), [], [], 0⟩
def f30_broughamref35_Right (n : Nat) (f_0 : Int) (f_1 : Int) (f_2 : List (Int × Int × List FT)) : Option (Bool) :=
  (f57_broughamref35_depth n f_0 f_1 f_2).bind fun r428_0 =>
  if (decide ((r428_0 : Int) ≤ 16)) = true then
    (f58_broughamref35_all n f_0 f_1 f_2).bind fun r428_1 =>
    some r428_1
  else
    some false
theorem f30_broughamref35_Right_ok (n : Nat) (f_0 : Int) (f_1 : Int) (f_2 : List (Int × Int × List FT)) (r : Bool) (h : f30_broughamref35_Right n f_0 f_1 f_2 = some r) : FnOK Tryd.prog 30 (f30_broughamref35_Right_in f_0 f_1 f_2) (f30_broughamref35_Right_out r) := by
  unfold f30_broughamref35_Right at h
  refine At.fn (r := 0) Tryd.func30 rfl (by kernel_rfl) rfl rfl (by kernel_rfl) ?_
  show At Tryd.prog Tryd.f30 0 0 ⟨[(0, .one (.agg [zi f_0, zi f_1, .d (.sl (.pair (.int .i64) (.pair (.int .i64) .wood)) f_2)]))], [], [], 0⟩ _
  refine At.step hm ht ⟨[], [], [], [1], [0]⟩ 1 ⟨[(1, oc (.ptr 0 0))], [], [(0, [zi f_0, zi f_1, .d (.sl (.pair (.int .i64) (.pair (.int .i64) .wood)) f_2)])], 1⟩ [] (by kernel_rfl) trivial ?_
  obtain ⟨r428_0, cr428_0, h⟩ := bindS h
  rcases iteS h with ⟨b428_3, h⟩ | ⟨b428_3, h⟩
  · obtain ⟨r428_1, cr428_1, h⟩ := bindS h
    have h := Option.some.inj h
    subst h
    exact At.fin hm ht ⟨[(1, .call [] [] (f57_broughamref35_depth_out r428_0)), (3, .b true), (5, .call [] [] (f58_broughamref35_all_out r428_1))], [], [], [2], []⟩ [FnOK Tryd.prog 57 (f57_broughamref35_depth_in f_0 f_1 f_2) (f57_broughamref35_depth_out r428_0), (decide ((r428_0 : Int) ≤ 16)) = true, FnOK Tryd.prog 58 (f58_broughamref35_all_in f_0 f_1 f_2) (f58_broughamref35_all_out r428_1)] (by kernel_rfl) ⟨(f57_broughamref35_depth_ok n f_0 f_1 f_2 r428_0 cr428_0), b428_3, (f58_broughamref35_all_ok n f_0 f_1 f_2 r428_1 cr428_1), trivial⟩
  · have h := Option.some.inj h
    subst h
    exact At.fin hm ht ⟨[(1, .call [] [] (f57_broughamref35_depth_out r428_0)), (3, .b false)], [], [], [2], []⟩ [FnOK Tryd.prog 57 (f57_broughamref35_depth_in f_0 f_1 f_2) (f57_broughamref35_depth_out r428_0), (decide ((r428_0 : Int) ≤ 16)) = false] (by kernel_rfl) ⟨(f57_broughamref35_depth_ok n f_0 f_1 f_2 r428_0 cr428_0), b428_3, trivial⟩
/-! brougham/broughamref35.Parse -/
def f22_broughamref35_Parse_in (s : ByteArray) : Inn := ⟨[.c (.d (.str s))], [], [], 0⟩
def f22_broughamref35_Parse_out (r : Bool × Int × Int × List (Int × Int × List FT)) : Out := ⟨.tup [.agg [zi r.2.1, zi r.2.2.1, .own 1 (.pair (.int .i64) (.pair (.int .i64) .wood)) r.2.2.2], .c (.d (.bool r.1))], [(1, ⟨42, 0⟩)], [(0, [zi r.2.1, zi r.2.2.1, .own 1 (.pair (.int .i64) (.pair (.int .i64) .wood)) r.2.2.2])], 2⟩
def f22_broughamref35_Parse (n : Nat) (s : ByteArray) : Option (Bool × Int × Int × List (Int × Int × List FT)) :=
  if (decide ((((s.size : Nat) : Int) : Int) > 4096)) = true then
    some (false, 0, 0, [])
  else
    (f19_broughamref01_Pieces n s).bind fun r515_0 =>
    (f55_broughamref35_read n r515_0 64).bind fun r515_1 =>
    if (!r515_1.1) = true then
      some (false, 0, 0, [])
    else
      (f30_broughamref35_Right n r515_1.2.1 r515_1.2.2.1 r515_1.2.2.2).bind fun r516_0 =>
      if (!r516_0) = true then
        some (false, 0, 0, [])
      else
        some (true, r515_1.2.1, r515_1.2.2.1, r515_1.2.2.2)
theorem f22_broughamref35_Parse_ok (n : Nat) (s : ByteArray) (r : Bool × Int × Int × List (Int × Int × List FT)) (h : f22_broughamref35_Parse n s = some r) : FnOK Tryd.prog 22 (f22_broughamref35_Parse_in s) (f22_broughamref35_Parse_out r) := by
  unfold f22_broughamref35_Parse at h
  refine At.fn (r := 0) Tryd.func22 rfl (by kernel_rfl) rfl rfl (by kernel_rfl) ?_
  show At Tryd.prog Tryd.f22 0 0 ⟨[(0, oc (.d (.str s)))], [], [], 0⟩ _
  refine At.step hm ht ⟨[], [], [], [0, 2], [0]⟩ 1 ⟨[(0, oc (.d (.str s))), (2, oc (.ptr 0 0))], [], [(0, [zi 0, zi 0, .d (.sl .unit [])])], 1⟩ [] (by kernel_rfl) trivial ?_
  rcases iteS h with ⟨b513_e0, h⟩ | ⟨b513_e0, h⟩
  · refine At.step hm ht ⟨[], [true], [], [2], [0]⟩ 2 ⟨[(2, oc (.ptr 0 0))], [], [(0, [zi 0, zi 0, .d (.sl .unit [])])], 1⟩ [(decide ((((s.size : Nat) : Int) : Int) > 4096)) = true] (by kernel_rfl) ⟨b513_e0, trivial⟩ ?_
    have h := Option.some.inj h
    subst h
    exact At.fin hm ht ⟨[], [], [.nil true 0 2 (.pair (.int .i64) (.pair (.int .i64) .wood)) (some 42)], [2, 3], [0, 4]⟩ [0 + 3 ≤ 3] (by kernel_rfl) ⟨(by decide), trivial⟩
  · refine At.step hm ht ⟨[], [false], [], [0, 2], [0]⟩ 3 ⟨[(0, oc (.d (.str s))), (2, oc (.ptr 0 0))], [], [(0, [zi 0, zi 0, .d (.sl .unit [])])], 1⟩ [(decide ((((s.size : Nat) : Int) : Int) > 4096)) = false] (by kernel_rfl) ⟨b513_e0, trivial⟩ ?_
    obtain ⟨r515_0, cr515_0, h⟩ := bindS h
    obtain ⟨r515_1, cr515_1, h⟩ := bindS h
    refine At.step hm ht ⟨[(1, .call [] [] (f19_broughamref01_Pieces_out r515_0)), (2, .call [] [] (f55_broughamref35_read_out r515_1))], [], [], [2, 4, 5], [0, 8, 4]⟩ 4 ⟨[(2, oc (.ptr 0 0)), (4, oc (.ptr 1 0)), (5, oc (.d (.bool r515_1.1)))], [(2, some ⟨42, 0⟩)], [(0, [zi 0, zi 0, .d (.sl .unit [])]), (1, [zi r515_1.2.1, zi r515_1.2.2.1, .own 2 (.pair (.int .i64) (.pair (.int .i64) .wood)) r515_1.2.2.2])], 3⟩ [FnOK Tryd.prog 19 (f19_broughamref01_Pieces_in s) (f19_broughamref01_Pieces_out r515_0), FnOK Tryd.prog 55 (f55_broughamref35_read_in r515_0 64) (f55_broughamref35_read_out r515_1), 0 + 3 ≤ 3] (by kernel_rfl) ⟨(f19_broughamref01_Pieces_ok n s r515_0 cr515_0), (f55_broughamref35_read_ok n r515_0 64 r515_1 cr515_1), (by decide), trivial⟩ ?_
    rcases iteS h with ⟨b516_2, h⟩ | ⟨b516_2, h⟩
    · refine At.step hm ht ⟨[(2, .b true)], [true], [], [2], [0]⟩ 5 ⟨[(2, oc (.ptr 0 0))], [], [(0, [zi 0, zi 0, .d (.sl .unit [])])], 1⟩ [(!r515_1.1) = true, true = true] (by kernel_rfl) ⟨b516_2, rfl, trivial⟩ ?_
      have h := Option.some.inj h
      subst h
      exact At.fin hm ht ⟨[], [], [.nil true 0 2 (.pair (.int .i64) (.pair (.int .i64) .wood)) (some 42)], [2, 3], [0, 4]⟩ [0 + 3 ≤ 3] (by kernel_rfl) ⟨(by decide), trivial⟩
    · obtain ⟨r516_0, cr516_0, h⟩ := bindS h
      rcases iteS h with ⟨b516_e0, h⟩ | ⟨b516_e0, h⟩
      · refine At.step hm ht ⟨[(2, .b false), (4, .call [] [] (f30_broughamref35_Right_out r516_0))], [true], [], [2], [0]⟩ 5 ⟨[(2, oc (.ptr 0 0))], [], [(0, [zi 0, zi 0, .d (.sl .unit [])])], 1⟩ [(!r515_1.1) = false, FnOK Tryd.prog 30 (f30_broughamref35_Right_in r515_1.2.1 r515_1.2.2.1 r515_1.2.2.2) (f30_broughamref35_Right_out r516_0), (!r516_0) = true] (by kernel_rfl) ⟨b516_2, (f30_broughamref35_Right_ok n r515_1.2.1 r515_1.2.2.1 r515_1.2.2.2 r516_0 cr516_0), b516_e0, trivial⟩ ?_
        have h := Option.some.inj h
        subst h
        exact At.fin hm ht ⟨[], [], [.nil true 0 2 (.pair (.int .i64) (.pair (.int .i64) .wood)) (some 42)], [2, 3], [0, 4]⟩ [0 + 3 ≤ 3] (by kernel_rfl) ⟨(by decide), trivial⟩
      · refine At.step hm ht ⟨[(2, .b false), (4, .call [] [] (f30_broughamref35_Right_out r516_0))], [false], [], [2, 4], [0, 1, 2]⟩ 6 ⟨[(2, oc (.ptr 0 0)), (4, oc (.ptr 1 0))], [(2, some ⟨42, 0⟩)], [(0, [zi 0, zi 0, .d (.sl .unit [])]), (1, [zi r515_1.2.1, zi r515_1.2.2.1, .own 2 (.pair (.int .i64) (.pair (.int .i64) .wood)) r515_1.2.2.2])], 3⟩ [(!r515_1.1) = false, FnOK Tryd.prog 30 (f30_broughamref35_Right_in r515_1.2.1 r515_1.2.2.1 r515_1.2.2.2) (f30_broughamref35_Right_out r516_0), (!r516_0) = false] (by kernel_rfl) ⟨b516_2, (f30_broughamref35_Right_ok n r515_1.2.1 r515_1.2.2.1 r515_1.2.2.2 r516_0 cr516_0), b516_e0, trivial⟩ ?_
        have h := Option.some.inj h
        subst h
        exact At.fin hm ht ⟨[], [], [], [2, 3], [0, 2]⟩ [0 + 3 ≤ 3] (by kernel_rfl) ⟨(by decide), trivial⟩
/-! brougham/filter.flag -/
def f87_filter_flag_in (n_ : Int) : Inn := ⟨[.c (zi n_)], [], [], 0⟩
def f87_filter_flag_out (r : ByteArray) : Out := ⟨oc (.d (.str r)), [], [], 0⟩
def f87_filter_flag (n_ : Int) : Option (ByteArray) :=
  if ((n_ : Int) == 1) = true then
    some (⟨#[115, 121, 110]⟩ : ByteArray)
  else
    if ((n_ : Int) == 2) = true then
      some (⟨#[97, 99, 107]⟩ : ByteArray)
    else
      some (⟨#[114, 115, 116]⟩ : ByteArray)
theorem f87_filter_flag_ok (n_ : Int) (r : ByteArray) (h : f87_filter_flag n_ = some r) : FnOK Tryd.prog 87 (f87_filter_flag_in n_) (f87_filter_flag_out r) := by
  unfold f87_filter_flag at h
  refine At.fn (r := 0) Tryd.func87 rfl (by kernel_rfl) rfl rfl (by kernel_rfl) ?_
  show At Tryd.prog Tryd.f87 0 0 ⟨[(0, oc (zi n_))], [], [], 0⟩ _
  refine At.step hm ht ⟨[], [], [], [0], []⟩ 1 ⟨[(0, oc (zi n_))], [], [], 0⟩ [] (by kernel_rfl) trivial ?_
  refine At.step hm ht ⟨[], [], [], [3], []⟩ 2 ⟨[(3, oc (zi n_))], [], [], 0⟩ [] (by kernel_rfl) trivial ?_
  rcases iteS h with ⟨b539_e0, h⟩ | ⟨b539_e0, h⟩
  · refine At.step hm ht ⟨[], [true], [], [], []⟩ 3 ⟨[], [], [], 0⟩ [((n_ : Int) == 1) = true] (by kernel_rfl) ⟨b539_e0, trivial⟩ ?_
    have h := Option.some.inj h
    subst h
    exact At.fin hm ht ⟨[], [], [], [2], []⟩ [] (by kernel_rfl) trivial
  · refine At.step hm ht ⟨[], [false], [], [3], []⟩ 4 ⟨[(3, oc (zi n_))], [], [], 0⟩ [((n_ : Int) == 1) = false] (by kernel_rfl) ⟨b539_e0, trivial⟩ ?_
    rcases iteS h with ⟨b541_e0, h⟩ | ⟨b541_e0, h⟩
    · refine At.step hm ht ⟨[], [true], [], [], []⟩ 5 ⟨[], [], [], 0⟩ [((n_ : Int) == 2) = true] (by kernel_rfl) ⟨b541_e0, trivial⟩ ?_
      have h := Option.some.inj h
      subst h
      exact At.fin hm ht ⟨[], [], [], [2], []⟩ [] (by kernel_rfl) trivial
    · refine At.step hm ht ⟨[], [false], [], [], []⟩ 6 ⟨[], [], [], 0⟩ [((n_ : Int) == 2) = false] (by kernel_rfl) ⟨b541_e0, trivial⟩ ?_
      have h := Option.some.inj h
      subst h
      exact At.fin hm ht ⟨[], [], [], [2], []⟩ [] (by kernel_rfl) trivial
/-! brougham/filter.text -/
def f56_filter_text_in (f : PT) : Inn := ⟨[.c (.d (.pt f))], [], [], 0⟩
def f56_filter_text_out (r : ByteArray) : Out := ⟨oc (.d (.str r)), [], [], 0⟩
def f56_filter_text : Nat → PT → Option (ByteArray)
  | 0, _ => none
  | n + 1, f =>
    if PT.isNil f = false then
    if (((PT.op f) : Int) == 1) = true then
      some (⟨#[97, 108, 108]⟩ : ByteArray)
    else
      if (((PT.op f) : Int) == 11) = true then
        some (⟨#[101, 109, 112, 116, 121]⟩ : ByteArray)
      else
        if (((PT.op f) : Int) == 2) = true then
          if PT.isNil f = false then
          (f87_filter_flag (PT.num f)).bind fun r536_1 =>
          some r536_1
          else none
        else
          if (((PT.op f) : Int) == 3) = true then
            if PT.isNil f = false then
            (f52_num_Text (PT.num f)).bind fun r545_1 =>
            if (⟨#[112, 111, 114, 116, 32]⟩ : ByteArray).size + r545_1.size ≤ 9223372036854775807 then
            some ((⟨#[112, 111, 114, 116, 32]⟩ : ByteArray) ++ r545_1)
            else none
            else none
          else
            if (((PT.op f) : Int) == 4) = true then
              if PT.isNil f = false then
              (f52_num_Text (PT.num f)).bind fun r547_1 =>
              if (⟨#[115, 114, 99, 32]⟩ : ByteArray).size + r547_1.size ≤ 9223372036854775807 then
              some ((⟨#[115, 114, 99, 32]⟩ : ByteArray) ++ r547_1)
              else none
              else none
            else
              if (((PT.op f) : Int) == 5) = true then
                if PT.isNil f = false then
                (f52_num_Text (PT.num f)).bind fun r549_1 =>
                if (⟨#[100, 115, 116, 32]⟩ : ByteArray).size + r549_1.size ≤ 9223372036854775807 then
                some ((⟨#[100, 115, 116, 32]⟩ : ByteArray) ++ r549_1)
                else none
                else none
              else
                if (((PT.op f) : Int) == 6) = true then
                  if PT.isNil f = false then
                  (f52_num_Text (PT.num f)).bind fun r551_1 =>
                  if (⟨#[104, 97, 115, 32]⟩ : ByteArray).size + r551_1.size ≤ 9223372036854775807 then
                  some ((⟨#[104, 97, 115, 32]⟩ : ByteArray) ++ r551_1)
                  else none
                  else none
                else
                  if (((PT.op f) : Int) == 7) = true then
                    if PT.isNil f = false then
                    (f52_num_Text (PT.num f)).bind fun r553_1 =>
                    if (⟨#[108, 111, 110, 103, 32]⟩ : ByteArray).size + r553_1.size ≤ 9223372036854775807 then
                    some ((⟨#[108, 111, 110, 103, 32]⟩ : ByteArray) ++ r553_1)
                    else none
                    else none
                  else
                    if (((PT.op f) : Int) == 8) = true then
                      if PT.isNil f = false then
                      ((f56_filter_text n) (PT.fst f)).bind fun r555_1 =>
                      if (⟨#[40, 32, 110, 111, 116, 32]⟩ : ByteArray).size + r555_1.size ≤ 9223372036854775807 then
                      if ((⟨#[40, 32, 110, 111, 116, 32]⟩ : ByteArray) ++ r555_1).size + (⟨#[32, 41]⟩ : ByteArray).size ≤ 9223372036854775807 then
                      some (((⟨#[40, 32, 110, 111, 116, 32]⟩ : ByteArray) ++ r555_1) ++ (⟨#[32, 41]⟩ : ByteArray))
                      else none
                      else none
                      else none
                    else
                      if (((PT.op f) : Int) == 9) = true then
                        if PT.isNil f = false then
                        ((f56_filter_text n) (PT.fst f)).bind fun r557_1 =>
                        if (⟨#[40, 32]⟩ : ByteArray).size + r557_1.size ≤ 9223372036854775807 then
                        if ((⟨#[40, 32]⟩ : ByteArray) ++ r557_1).size + (⟨#[32, 97, 110, 100, 32]⟩ : ByteArray).size ≤ 9223372036854775807 then
                        if PT.isNil f = false then
                        ((f56_filter_text n) (PT.snd f)).bind fun r557_5 =>
                        if (((⟨#[40, 32]⟩ : ByteArray) ++ r557_1) ++ (⟨#[32, 97, 110, 100, 32]⟩ : ByteArray)).size + r557_5.size ≤ 9223372036854775807 then
                        if ((((⟨#[40, 32]⟩ : ByteArray) ++ r557_1) ++ (⟨#[32, 97, 110, 100, 32]⟩ : ByteArray)) ++ r557_5).size + (⟨#[32, 41]⟩ : ByteArray).size ≤ 9223372036854775807 then
                        some (((((⟨#[40, 32]⟩ : ByteArray) ++ r557_1) ++ (⟨#[32, 97, 110, 100, 32]⟩ : ByteArray)) ++ r557_5) ++ (⟨#[32, 41]⟩ : ByteArray))
                        else none
                        else none
                        else none
                        else none
                        else none
                        else none
                      else
                        if PT.isNil f = false then
                        ((f56_filter_text n) (PT.fst f)).bind fun r558_1 =>
                        if (⟨#[40, 32]⟩ : ByteArray).size + r558_1.size ≤ 9223372036854775807 then
                        if ((⟨#[40, 32]⟩ : ByteArray) ++ r558_1).size + (⟨#[32, 111, 114, 32]⟩ : ByteArray).size ≤ 9223372036854775807 then
                        if PT.isNil f = false then
                        ((f56_filter_text n) (PT.snd f)).bind fun r558_5 =>
                        if (((⟨#[40, 32]⟩ : ByteArray) ++ r558_1) ++ (⟨#[32, 111, 114, 32]⟩ : ByteArray)).size + r558_5.size ≤ 9223372036854775807 then
                        if ((((⟨#[40, 32]⟩ : ByteArray) ++ r558_1) ++ (⟨#[32, 111, 114, 32]⟩ : ByteArray)) ++ r558_5).size + (⟨#[32, 41]⟩ : ByteArray).size ≤ 9223372036854775807 then
                        some (((((⟨#[40, 32]⟩ : ByteArray) ++ r558_1) ++ (⟨#[32, 111, 114, 32]⟩ : ByteArray)) ++ r558_5) ++ (⟨#[32, 41]⟩ : ByteArray))
                        else none
                        else none
                        else none
                        else none
                        else none
                        else none
    else none
theorem f56_filter_text_ok (n : Nat) : ∀ (f : PT) (r : ByteArray) (h : f56_filter_text n f = some r), FnOK Tryd.prog 56 (f56_filter_text_in f) (f56_filter_text_out r) := by
  induction n with
  | zero => intro f r h; rw [f56_filter_text] at h; cases h
  | succ n ih =>
    intro f r h
    rw [f56_filter_text] at h
    refine At.fn (r := 0) Tryd.func56 rfl (by kernel_rfl) rfl rfl (by kernel_rfl) ?_
    show At Tryd.prog Tryd.f56 0 0 ⟨[(0, oc (.d (.pt f)))], [], [], 0⟩ _
    refine At.step hm ht ⟨[], [], [], [0], []⟩ 1 ⟨[(0, oc (.d (.pt f)))], [], [], 0⟩ [] (by kernel_rfl) trivial ?_
    obtain ⟨g530_0, h⟩ := ifS h
    refine At.step hm ht ⟨[], [], [], [0, 6], []⟩ 2 ⟨[(0, oc (.d (.pt f))), (6, oc (zi (PT.op f)))], [], [], 0⟩ [PT.isNil f = false] (by kernel_rfl) ⟨g530_0, trivial⟩ ?_
    rcases iteS h with ⟨b531_e0, h⟩ | ⟨b531_e0, h⟩
    · refine At.step hm ht ⟨[], [true], [], [], []⟩ 3 ⟨[], [], [], 0⟩ [(((PT.op f) : Int) == 1) = true] (by kernel_rfl) ⟨b531_e0, trivial⟩ ?_
      have h := Option.some.inj h
      subst h
      exact At.fin hm ht ⟨[], [], [], [2], []⟩ [] (by kernel_rfl) trivial
    · refine At.step hm ht ⟨[], [false], [], [0, 6], []⟩ 4 ⟨[(0, oc (.d (.pt f))), (6, oc (zi (PT.op f)))], [], [], 0⟩ [(((PT.op f) : Int) == 1) = false] (by kernel_rfl) ⟨b531_e0, trivial⟩ ?_
      rcases iteS h with ⟨b533_e0, h⟩ | ⟨b533_e0, h⟩
      · refine At.step hm ht ⟨[], [true], [], [], []⟩ 5 ⟨[], [], [], 0⟩ [(((PT.op f) : Int) == 11) = true] (by kernel_rfl) ⟨b533_e0, trivial⟩ ?_
        have h := Option.some.inj h
        subst h
        exact At.fin hm ht ⟨[], [], [], [2], []⟩ [] (by kernel_rfl) trivial
      · refine At.step hm ht ⟨[], [false], [], [0, 6], []⟩ 6 ⟨[(0, oc (.d (.pt f))), (6, oc (zi (PT.op f)))], [], [], 0⟩ [(((PT.op f) : Int) == 11) = false] (by kernel_rfl) ⟨b533_e0, trivial⟩ ?_
        rcases iteS h with ⟨b535_e0, h⟩ | ⟨b535_e0, h⟩
        · refine At.step hm ht ⟨[], [true], [], [0], []⟩ 7 ⟨[(0, oc (.d (.pt f)))], [], [], 0⟩ [(((PT.op f) : Int) == 2) = true] (by kernel_rfl) ⟨b535_e0, trivial⟩ ?_
          obtain ⟨g536_0, h⟩ := ifS h
          obtain ⟨r536_1, cr536_1, h⟩ := bindS h
          have h := Option.some.inj h
          subst h
          exact At.fin hm ht ⟨[(4, .call [] [] (f87_filter_flag_out r536_1))], [], [], [2], []⟩ [PT.isNil f = false, FnOK Tryd.prog 87 (f87_filter_flag_in (PT.num f)) (f87_filter_flag_out r536_1)] (by kernel_rfl) ⟨g536_0, (f87_filter_flag_ok (PT.num f) r536_1 cr536_1), trivial⟩
        · refine At.step hm ht ⟨[], [false], [], [0, 6], []⟩ 8 ⟨[(0, oc (.d (.pt f))), (6, oc (zi (PT.op f)))], [], [], 0⟩ [(((PT.op f) : Int) == 2) = false] (by kernel_rfl) ⟨b535_e0, trivial⟩ ?_
          rcases iteS h with ⟨b544_e0, h⟩ | ⟨b544_e0, h⟩
          · refine At.step hm ht ⟨[], [true], [], [0], []⟩ 9 ⟨[(0, oc (.d (.pt f)))], [], [], 0⟩ [(((PT.op f) : Int) == 3) = true] (by kernel_rfl) ⟨b544_e0, trivial⟩ ?_
            obtain ⟨g545_0, h⟩ := ifS h
            obtain ⟨r545_1, cr545_1, h⟩ := bindS h
            obtain ⟨g545_2, h⟩ := ifS h
            have h := Option.some.inj h
            subst h
            exact At.fin hm ht ⟨[(4, .call [] [] (f52_num_Text_out r545_1))], [], [], [2], []⟩ [PT.isNil f = false, FnOK Tryd.prog 52 (f52_num_Text_in (PT.num f)) (f52_num_Text_out r545_1), (⟨#[112, 111, 114, 116, 32]⟩ : ByteArray).size + r545_1.size ≤ 9223372036854775807] (by kernel_rfl) ⟨g545_0, (f52_num_Text_ok (PT.num f) r545_1 cr545_1), g545_2, trivial⟩
          · refine At.step hm ht ⟨[], [false], [], [0, 6], []⟩ 10 ⟨[(0, oc (.d (.pt f))), (6, oc (zi (PT.op f)))], [], [], 0⟩ [(((PT.op f) : Int) == 3) = false] (by kernel_rfl) ⟨b544_e0, trivial⟩ ?_
            rcases iteS h with ⟨b546_e0, h⟩ | ⟨b546_e0, h⟩
            · refine At.step hm ht ⟨[], [true], [], [0], []⟩ 11 ⟨[(0, oc (.d (.pt f)))], [], [], 0⟩ [(((PT.op f) : Int) == 4) = true] (by kernel_rfl) ⟨b546_e0, trivial⟩ ?_
              obtain ⟨g547_0, h⟩ := ifS h
              obtain ⟨r547_1, cr547_1, h⟩ := bindS h
              obtain ⟨g547_2, h⟩ := ifS h
              have h := Option.some.inj h
              subst h
              exact At.fin hm ht ⟨[(4, .call [] [] (f52_num_Text_out r547_1))], [], [], [2], []⟩ [PT.isNil f = false, FnOK Tryd.prog 52 (f52_num_Text_in (PT.num f)) (f52_num_Text_out r547_1), (⟨#[115, 114, 99, 32]⟩ : ByteArray).size + r547_1.size ≤ 9223372036854775807] (by kernel_rfl) ⟨g547_0, (f52_num_Text_ok (PT.num f) r547_1 cr547_1), g547_2, trivial⟩
            · refine At.step hm ht ⟨[], [false], [], [0, 6], []⟩ 12 ⟨[(0, oc (.d (.pt f))), (6, oc (zi (PT.op f)))], [], [], 0⟩ [(((PT.op f) : Int) == 4) = false] (by kernel_rfl) ⟨b546_e0, trivial⟩ ?_
              rcases iteS h with ⟨b548_e0, h⟩ | ⟨b548_e0, h⟩
              · refine At.step hm ht ⟨[], [true], [], [0], []⟩ 13 ⟨[(0, oc (.d (.pt f)))], [], [], 0⟩ [(((PT.op f) : Int) == 5) = true] (by kernel_rfl) ⟨b548_e0, trivial⟩ ?_
                obtain ⟨g549_0, h⟩ := ifS h
                obtain ⟨r549_1, cr549_1, h⟩ := bindS h
                obtain ⟨g549_2, h⟩ := ifS h
                have h := Option.some.inj h
                subst h
                exact At.fin hm ht ⟨[(4, .call [] [] (f52_num_Text_out r549_1))], [], [], [2], []⟩ [PT.isNil f = false, FnOK Tryd.prog 52 (f52_num_Text_in (PT.num f)) (f52_num_Text_out r549_1), (⟨#[100, 115, 116, 32]⟩ : ByteArray).size + r549_1.size ≤ 9223372036854775807] (by kernel_rfl) ⟨g549_0, (f52_num_Text_ok (PT.num f) r549_1 cr549_1), g549_2, trivial⟩
              · refine At.step hm ht ⟨[], [false], [], [0, 6], []⟩ 14 ⟨[(0, oc (.d (.pt f))), (6, oc (zi (PT.op f)))], [], [], 0⟩ [(((PT.op f) : Int) == 5) = false] (by kernel_rfl) ⟨b548_e0, trivial⟩ ?_
                rcases iteS h with ⟨b550_e0, h⟩ | ⟨b550_e0, h⟩
                · refine At.step hm ht ⟨[], [true], [], [0], []⟩ 15 ⟨[(0, oc (.d (.pt f)))], [], [], 0⟩ [(((PT.op f) : Int) == 6) = true] (by kernel_rfl) ⟨b550_e0, trivial⟩ ?_
                  obtain ⟨g551_0, h⟩ := ifS h
                  obtain ⟨r551_1, cr551_1, h⟩ := bindS h
                  obtain ⟨g551_2, h⟩ := ifS h
                  have h := Option.some.inj h
                  subst h
                  exact At.fin hm ht ⟨[(4, .call [] [] (f52_num_Text_out r551_1))], [], [], [2], []⟩ [PT.isNil f = false, FnOK Tryd.prog 52 (f52_num_Text_in (PT.num f)) (f52_num_Text_out r551_1), (⟨#[104, 97, 115, 32]⟩ : ByteArray).size + r551_1.size ≤ 9223372036854775807] (by kernel_rfl) ⟨g551_0, (f52_num_Text_ok (PT.num f) r551_1 cr551_1), g551_2, trivial⟩
                · refine At.step hm ht ⟨[], [false], [], [0, 6], []⟩ 16 ⟨[(0, oc (.d (.pt f))), (6, oc (zi (PT.op f)))], [], [], 0⟩ [(((PT.op f) : Int) == 6) = false] (by kernel_rfl) ⟨b550_e0, trivial⟩ ?_
                  rcases iteS h with ⟨b552_e0, h⟩ | ⟨b552_e0, h⟩
                  · refine At.step hm ht ⟨[], [true], [], [0], []⟩ 17 ⟨[(0, oc (.d (.pt f)))], [], [], 0⟩ [(((PT.op f) : Int) == 7) = true] (by kernel_rfl) ⟨b552_e0, trivial⟩ ?_
                    obtain ⟨g553_0, h⟩ := ifS h
                    obtain ⟨r553_1, cr553_1, h⟩ := bindS h
                    obtain ⟨g553_2, h⟩ := ifS h
                    have h := Option.some.inj h
                    subst h
                    exact At.fin hm ht ⟨[(4, .call [] [] (f52_num_Text_out r553_1))], [], [], [2], []⟩ [PT.isNil f = false, FnOK Tryd.prog 52 (f52_num_Text_in (PT.num f)) (f52_num_Text_out r553_1), (⟨#[108, 111, 110, 103, 32]⟩ : ByteArray).size + r553_1.size ≤ 9223372036854775807] (by kernel_rfl) ⟨g553_0, (f52_num_Text_ok (PT.num f) r553_1 cr553_1), g553_2, trivial⟩
                  · refine At.step hm ht ⟨[], [false], [], [0, 6], []⟩ 18 ⟨[(0, oc (.d (.pt f))), (6, oc (zi (PT.op f)))], [], [], 0⟩ [(((PT.op f) : Int) == 7) = false] (by kernel_rfl) ⟨b552_e0, trivial⟩ ?_
                    rcases iteS h with ⟨b554_e0, h⟩ | ⟨b554_e0, h⟩
                    · refine At.step hm ht ⟨[], [true], [], [0], []⟩ 19 ⟨[(0, oc (.d (.pt f)))], [], [], 0⟩ [(((PT.op f) : Int) == 8) = true] (by kernel_rfl) ⟨b554_e0, trivial⟩ ?_
                      obtain ⟨g555_0, h⟩ := ifS h
                      obtain ⟨r555_1, cr555_1, h⟩ := bindS h
                      obtain ⟨g555_2, h⟩ := ifS h
                      obtain ⟨g555_3, h⟩ := ifS h
                      have h := Option.some.inj h
                      subst h
                      exact At.fin hm ht ⟨[(4, .call [] [] (f56_filter_text_out r555_1))], [], [], [2], []⟩ [PT.isNil f = false, FnOK Tryd.prog 56 (f56_filter_text_in (PT.fst f)) (f56_filter_text_out r555_1), (⟨#[40, 32, 110, 111, 116, 32]⟩ : ByteArray).size + r555_1.size ≤ 9223372036854775807, ((⟨#[40, 32, 110, 111, 116, 32]⟩ : ByteArray) ++ r555_1).size + (⟨#[32, 41]⟩ : ByteArray).size ≤ 9223372036854775807] (by kernel_rfl) ⟨g555_0, (ih (PT.fst f) r555_1 cr555_1), g555_2, g555_3, trivial⟩
                    · refine At.step hm ht ⟨[], [false], [], [0, 6], []⟩ 20 ⟨[(0, oc (.d (.pt f))), (6, oc (zi (PT.op f)))], [], [], 0⟩ [(((PT.op f) : Int) == 8) = false] (by kernel_rfl) ⟨b554_e0, trivial⟩ ?_
                      rcases iteS h with ⟨b556_e0, h⟩ | ⟨b556_e0, h⟩
                      · refine At.step hm ht ⟨[], [true], [], [0], []⟩ 21 ⟨[(0, oc (.d (.pt f)))], [], [], 0⟩ [(((PT.op f) : Int) == 9) = true] (by kernel_rfl) ⟨b556_e0, trivial⟩ ?_
                        obtain ⟨g557_0, h⟩ := ifS h
                        obtain ⟨r557_1, cr557_1, h⟩ := bindS h
                        obtain ⟨g557_2, h⟩ := ifS h
                        obtain ⟨g557_3, h⟩ := ifS h
                        obtain ⟨g557_4, h⟩ := ifS h
                        obtain ⟨r557_5, cr557_5, h⟩ := bindS h
                        obtain ⟨g557_6, h⟩ := ifS h
                        obtain ⟨g557_7, h⟩ := ifS h
                        have h := Option.some.inj h
                        subst h
                        exact At.fin hm ht ⟨[(4, .call [] [] (f56_filter_text_out r557_1)), (11, .call [] [] (f56_filter_text_out r557_5))], [], [], [2], []⟩ [PT.isNil f = false, FnOK Tryd.prog 56 (f56_filter_text_in (PT.fst f)) (f56_filter_text_out r557_1), (⟨#[40, 32]⟩ : ByteArray).size + r557_1.size ≤ 9223372036854775807, ((⟨#[40, 32]⟩ : ByteArray) ++ r557_1).size + (⟨#[32, 97, 110, 100, 32]⟩ : ByteArray).size ≤ 9223372036854775807, PT.isNil f = false, FnOK Tryd.prog 56 (f56_filter_text_in (PT.snd f)) (f56_filter_text_out r557_5), (((⟨#[40, 32]⟩ : ByteArray) ++ r557_1) ++ (⟨#[32, 97, 110, 100, 32]⟩ : ByteArray)).size + r557_5.size ≤ 9223372036854775807, ((((⟨#[40, 32]⟩ : ByteArray) ++ r557_1) ++ (⟨#[32, 97, 110, 100, 32]⟩ : ByteArray)) ++ r557_5).size + (⟨#[32, 41]⟩ : ByteArray).size ≤ 9223372036854775807] (by kernel_rfl) ⟨g557_0, (ih (PT.fst f) r557_1 cr557_1), g557_2, g557_3, g557_4, (ih (PT.snd f) r557_5 cr557_5), g557_6, g557_7, trivial⟩
                      · refine At.step hm ht ⟨[], [false], [], [0], []⟩ 22 ⟨[(0, oc (.d (.pt f)))], [], [], 0⟩ [(((PT.op f) : Int) == 9) = false] (by kernel_rfl) ⟨b556_e0, trivial⟩ ?_
                        obtain ⟨g558_0, h⟩ := ifS h
                        obtain ⟨r558_1, cr558_1, h⟩ := bindS h
                        obtain ⟨g558_2, h⟩ := ifS h
                        obtain ⟨g558_3, h⟩ := ifS h
                        obtain ⟨g558_4, h⟩ := ifS h
                        obtain ⟨r558_5, cr558_5, h⟩ := bindS h
                        obtain ⟨g558_6, h⟩ := ifS h
                        obtain ⟨g558_7, h⟩ := ifS h
                        have h := Option.some.inj h
                        subst h
                        exact At.fin hm ht ⟨[(4, .call [] [] (f56_filter_text_out r558_1)), (11, .call [] [] (f56_filter_text_out r558_5))], [], [], [2], []⟩ [PT.isNil f = false, FnOK Tryd.prog 56 (f56_filter_text_in (PT.fst f)) (f56_filter_text_out r558_1), (⟨#[40, 32]⟩ : ByteArray).size + r558_1.size ≤ 9223372036854775807, ((⟨#[40, 32]⟩ : ByteArray) ++ r558_1).size + (⟨#[32, 111, 114, 32]⟩ : ByteArray).size ≤ 9223372036854775807, PT.isNil f = false, FnOK Tryd.prog 56 (f56_filter_text_in (PT.snd f)) (f56_filter_text_out r558_5), (((⟨#[40, 32]⟩ : ByteArray) ++ r558_1) ++ (⟨#[32, 111, 114, 32]⟩ : ByteArray)).size + r558_5.size ≤ 9223372036854775807, ((((⟨#[40, 32]⟩ : ByteArray) ++ r558_1) ++ (⟨#[32, 111, 114, 32]⟩ : ByteArray)) ++ r558_5).size + (⟨#[32, 41]⟩ : ByteArray).size ≤ 9223372036854775807] (by kernel_rfl) ⟨g558_0, (ih (PT.fst f) r558_1 cr558_1), g558_2, g558_3, g558_4, (ih (PT.snd f) r558_5 cr558_5), g558_6, g558_7, trivial⟩
/-! brougham/filter.Text -/
def f27_filter_Text_in (f : PT) : Inn := ⟨[.c (.d (.pt f))], [], [], 0⟩
def f27_filter_Text_out (r : ByteArray) : Out := ⟨oc (.d (.str r)), [], [], 0⟩
def f27_filter_Text (n : Nat) (f : PT) : Option (ByteArray) :=
  (f31_filter_Right n f).bind fun r526_0 =>
  if (!r526_0) = true then
    some (⟨#[]⟩ : ByteArray)
  else
    (f56_filter_text n f).bind fun r528_0 =>
    some r528_0
theorem f27_filter_Text_ok (n : Nat) (f : PT) (r : ByteArray) (h : f27_filter_Text n f = some r) : FnOK Tryd.prog 27 (f27_filter_Text_in f) (f27_filter_Text_out r) := by
  unfold f27_filter_Text at h
  refine At.fn (r := 0) Tryd.func27 rfl (by kernel_rfl) rfl rfl (by kernel_rfl) ?_
  show At Tryd.prog Tryd.f27 0 0 ⟨[(0, oc (.d (.pt f)))], [], [], 0⟩ _
  refine At.step hm ht ⟨[], [], [], [0], []⟩ 1 ⟨[(0, oc (.d (.pt f)))], [], [], 0⟩ [] (by kernel_rfl) trivial ?_
  obtain ⟨r526_0, cr526_0, h⟩ := bindS h
  rcases iteS h with ⟨b526_e0, h⟩ | ⟨b526_e0, h⟩
  · refine At.step hm ht ⟨[(1, .call [] [] (f31_filter_Right_out r526_0))], [true], [], [], []⟩ 2 ⟨[], [], [], 0⟩ [FnOK Tryd.prog 31 (f31_filter_Right_in f) (f31_filter_Right_out r526_0), (!r526_0) = true] (by kernel_rfl) ⟨(f31_filter_Right_ok n f r526_0 cr526_0), b526_e0, trivial⟩ ?_
    have h := Option.some.inj h
    subst h
    exact At.fin hm ht ⟨[], [], [], [2], []⟩ [] (by kernel_rfl) trivial
  · refine At.step hm ht ⟨[(1, .call [] [] (f31_filter_Right_out r526_0))], [false], [], [0], []⟩ 3 ⟨[(0, oc (.d (.pt f)))], [], [], 0⟩ [FnOK Tryd.prog 31 (f31_filter_Right_in f) (f31_filter_Right_out r526_0), (!r526_0) = false] (by kernel_rfl) ⟨(f31_filter_Right_ok n f r526_0 cr526_0), b526_e0, trivial⟩ ?_
    obtain ⟨r528_0, cr528_0, h⟩ := bindS h
    have h := Option.some.inj h
    subst h
    exact At.fin hm ht ⟨[(1, .call [] [] (f56_filter_text_out r528_0))], [], [], [2], []⟩ [FnOK Tryd.prog 56 (f56_filter_text_in f) (f56_filter_text_out r528_0)] (by kernel_rfl) ⟨(f56_filter_text_ok n f r528_0 cr528_0), trivial⟩
/-! brougham/seg.First -/
def f89_seg_First_in (s_0 : Int) (s_1 : Int) (s_2 : Int) (s_3 : Int) (s_4 : Int) (s_5 : List (Int × List Int)) (s_6 : List Int) (kind : Int) : Inn := ⟨[.agg [.d (.int .u16 s_0), .d (.int .u16 s_1), .d (.int .u32 s_2), .d (.int .u32 s_3), .d (.int .u8 s_4), .d (.sl (.pair (.int .u8) (.slice (.int .u8))) s_5), .d (.sl (.int .u8) s_6)], .c (.d (.int .u8 kind))], [], [], 0⟩
def f89_seg_First_out (r : Bool × Int × List Int) : Out := ⟨.tup [.agg [.d (.int .u8 r.2.1), .d (.sl (.int .u8) r.2.2)], .c (.d (.bool r.1))], [], [(0, [.d (.int .u8 r.2.1), .d (.sl (.int .u8) r.2.2)])], 1⟩
def f89_seg_First_L2 : Nat → Int → (List (Int × List Int)) → Int → Int → Int → Option ((Bool × Int × List Int) ⊕ (Int))
  | 0, _, _, _, _, _ => none
  | n + 1, kind, t9, t10, t11, t4_0 =>
    if (decide ((t11 : Int) < t10)) = true then
      if (0 : Int) ≤ t11 ∧ t11 < (((t9).length : Nat) : Int) then
      if ((((t9.getD t11.toNat (0, [])).1) : Int) == kind) = true then
        some (.inl (true, (t9.getD t11.toNat (0, [])).1, (t9.getD t11.toNat (0, [])).2))
      else
        f89_seg_First_L2 n kind t9 t10 (IntKind.wrap .i64 (t11 + 1)) t4_0
      else none
    else
      some (.inr t4_0)
def f89_seg_First_L2_k (w : (Bool × Int × List Int) ⊕ (Int)) (o : Out) : Prop := match w with
  | .inl e => o = f89_seg_First_out e
  | .inr e => At Tryd.prog Tryd.f89 0 7 ⟨[(4, oc (.ptr 0 0))], [], [(0, [.d (.int .u8 e), .d (.sl .unit [])])], 1⟩ o
theorem f89_seg_First_L2_ok (n : Nat) : ∀ (kind : Int) (t9 : List (Int × List Int)) (t10 : Int) (t11 : Int) (t4_0 : Int) (w : (Bool × Int × List Int) ⊕ (Int)) (h : f89_seg_First_L2 n kind t9 t10 t11 t4_0 = some w) (o : Out) (hk : f89_seg_First_L2_k w o), At Tryd.prog Tryd.f89 0 2 ⟨[(1, oc (.d (.int .u8 kind))), (4, oc (.ptr 0 0)), (9, oc (.d (.sl (.pair (.int .u8) (.slice (.int .u8))) t9))), (10, oc (zi t10)), (11, oc (zi t11))], [], [(0, [.d (.int .u8 t4_0), .d (.sl .unit [])])], 1⟩ o := by
  induction n with
  | zero => intro kind t9 t10 t11 t4_0 w h; rw [f89_seg_First_L2] at h; cases h
  | succ n ih =>
    intro kind t9 t10 t11 t4_0 w h o hk
    rw [f89_seg_First_L2] at h
    rcases iteS h with ⟨b577_e0, h⟩ | ⟨b577_e0, h⟩
    · refine At.step hm ht ⟨[], [true], [], [1, 4, 9, 10, 11], [0]⟩ 3 ⟨[(1, oc (.d (.int .u8 kind))), (4, oc (.ptr 0 0)), (9, oc (.d (.sl (.pair (.int .u8) (.slice (.int .u8))) t9))), (10, oc (zi t10)), (11, oc (zi t11))], [], [(0, [.d (.int .u8 t4_0), .d (.sl .unit [])])], 1⟩ [(decide ((t11 : Int) < t10)) = true] (by kernel_rfl) ⟨b577_e0, trivial⟩ ?_
      obtain ⟨g578_0, h⟩ := ifS h
      refine At.step hm ht ⟨[], [], [], [1, 4, 7, 9, 10, 11], [0, 3]⟩ 4 ⟨[(1, oc (.d (.int .u8 kind))), (4, oc (.ptr 0 0)), (7, oc (.ptr 1 0)), (9, oc (.d (.sl (.pair (.int .u8) (.slice (.int .u8))) t9))), (10, oc (zi t10)), (11, oc (zi t11))], [], [(0, [.d (.int .u8 t4_0), .d (.sl .unit [])]), (1, [.d (.int .u8 ((t9.getD t11.toNat (0, [])).1)), .d (.sl (.int .u8) ((t9.getD t11.toNat (0, [])).2))])], 2⟩ [(0 : Int) ≤ t11 ∧ t11 < (((t9).length : Nat) : Int), 0 + 2 ≤ 2] (by kernel_rfl) ⟨g578_0, (by decide), trivial⟩ ?_
      rcases iteS h with ⟨b579_e0, h⟩ | ⟨b579_e0, h⟩
      · refine At.step hm ht ⟨[], [true], [], [4, 7], [0, 1]⟩ 5 ⟨[(4, oc (.ptr 0 0)), (7, oc (.ptr 1 0))], [], [(0, [.d (.int .u8 t4_0), .d (.sl .unit [])]), (1, [.d (.int .u8 ((t9.getD t11.toNat (0, [])).1)), .d (.sl (.int .u8) ((t9.getD t11.toNat (0, [])).2))])], 2⟩ [((((t9.getD t11.toNat (0, [])).1) : Int) == kind) = true] (by kernel_rfl) ⟨b579_e0, trivial⟩ ?_
        have h := Option.some.inj h
        subst h
        have hk : o = f89_seg_First_out (true, (t9.getD t11.toNat (0, [])).1, (t9.getD t11.toNat (0, [])).2) := hk
        subst hk
        exact At.fin hm ht ⟨[], [], [], [4, 5], [0]⟩ [0 + 2 ≤ 2] (by kernel_rfl) ⟨(by decide), trivial⟩
      · refine At.step hm ht ⟨[], [false], [], [1, 4, 9, 10, 11], [0]⟩ 6 ⟨[(1, oc (.d (.int .u8 kind))), (4, oc (.ptr 0 0)), (9, oc (.d (.sl (.pair (.int .u8) (.slice (.int .u8))) t9))), (10, oc (zi t10)), (11, oc (zi t11))], [], [(0, [.d (.int .u8 t4_0), .d (.sl .unit [])])], 1⟩ [((((t9.getD t11.toNat (0, [])).1) : Int) == kind) = false] (by kernel_rfl) ⟨b579_e0, trivial⟩ ?_
        refine At.step hm ht ⟨[], [], [], [1, 4, 9, 10, 11], [0]⟩ 2 ⟨[(1, oc (.d (.int .u8 kind))), (4, oc (.ptr 0 0)), (9, oc (.d (.sl (.pair (.int .u8) (.slice (.int .u8))) t9))), (10, oc (zi t10)), (11, oc (zi (IntKind.wrap .i64 (t11 + 1))))], [], [(0, [.d (.int .u8 t4_0), .d (.sl .unit [])])], 1⟩ [] (by kernel_rfl) trivial ?_
        exact ih kind t9 t10 (IntKind.wrap .i64 (t11 + 1)) t4_0 w h o hk
    · refine At.step hm ht ⟨[], [false], [], [4], [0]⟩ 7 ⟨[(4, oc (.ptr 0 0))], [], [(0, [.d (.int .u8 t4_0), .d (.sl .unit [])])], 1⟩ [(decide ((t11 : Int) < t10)) = false] (by kernel_rfl) ⟨b577_e0, trivial⟩ ?_
      have h := Option.some.inj h
      subst h
      exact hk
def f89_seg_First (n : Nat) (s_0 : Int) (s_1 : Int) (s_2 : Int) (s_3 : Int) (s_4 : Int) (s_5 : List (Int × List Int)) (s_6 : List Int) (kind : Int) : Option (Bool × Int × List Int) :=
  (f89_seg_First_L2 n kind s_5 ((s_5.length : Nat) : Int) 0 0).bind fun w582 =>
  match w582 with
  | .inl e583 =>
    some (e583.1, e583.2.1, e583.2.2)
  | .inr e584 =>
    some (false, 0, [])
theorem f89_seg_First_ok (n : Nat) (s_0 : Int) (s_1 : Int) (s_2 : Int) (s_3 : Int) (s_4 : Int) (s_5 : List (Int × List Int)) (s_6 : List Int) (kind : Int) (r : Bool × Int × List Int) (h : f89_seg_First n s_0 s_1 s_2 s_3 s_4 s_5 s_6 kind = some r) : FnOK Tryd.prog 89 (f89_seg_First_in s_0 s_1 s_2 s_3 s_4 s_5 s_6 kind) (f89_seg_First_out r) := by
  unfold f89_seg_First at h
  refine At.fn (r := 0) Tryd.func89 rfl (by kernel_rfl) rfl rfl (by kernel_rfl) ?_
  show At Tryd.prog Tryd.f89 0 0 ⟨[(0, .one (.agg [.d (.int .u16 s_0), .d (.int .u16 s_1), .d (.int .u32 s_2), .d (.int .u32 s_3), .d (.int .u8 s_4), .d (.sl (.pair (.int .u8) (.slice (.int .u8))) s_5), .d (.sl (.int .u8) s_6)])), (1, oc (.d (.int .u8 kind)))], [], [], 0⟩ _
  refine At.step hm ht ⟨[], [], [], [1, 2, 4], [0, 1]⟩ 1 ⟨[(1, oc (.d (.int .u8 kind))), (2, oc (.ptr 0 0)), (4, oc (.ptr 1 0))], [], [(0, [.d (.int .u16 s_0), .d (.int .u16 s_1), .d (.int .u32 s_2), .d (.int .u32 s_3), .d (.int .u8 s_4), .d (.sl (.pair (.int .u8) (.slice (.int .u8))) s_5), .d (.sl (.int .u8) s_6)]), (1, [.d (.int .u8 0), .d (.sl .unit [])])], 2⟩ [] (by kernel_rfl) trivial ?_
  refine At.step hm ht ⟨[], [], [], [1, 4, 9, 10, 11], [1]⟩ 2 ⟨[(1, oc (.d (.int .u8 kind))), (4, oc (.ptr 0 0)), (9, oc (.d (.sl (.pair (.int .u8) (.slice (.int .u8))) s_5))), (10, oc (zi ((s_5.length : Nat) : Int))), (11, oc (zi 0))], [], [(0, [.d (.int .u8 0), .d (.sl .unit [])])], 1⟩ [] (by kernel_rfl) trivial ?_
  obtain ⟨w582, cw582, h⟩ := bindS h
  refine f89_seg_First_L2_ok n kind s_5 ((s_5.length : Nat) : Int) 0 0 w582 cw582 _ ?_
  rcases w582 with e583 | e584
  · have h := Option.some.inj h
    subst h
    rfl
  · show At Tryd.prog Tryd.f89 0 7 ⟨[(4, oc (.ptr 0 0))], [], [(0, [.d (.int .u8 e584), .d (.sl .unit [])])], 1⟩ _
    have h := Option.some.inj h
    subst h
    exact At.fin hm ht ⟨[], [], [.nil true 0 1 (.int .u8) none], [4, 5], [0]⟩ [0 + 2 ≤ 2] (by kernel_rfl) ⟨(by decide), trivial⟩
/-! brougham/filter.match -/
def f60_filter_match_in (f : PT) (s_0 : Int) (s_1 : Int) (s_2 : Int) (s_3 : Int) (s_4 : Int) (s_5 : List (Int × List Int)) (s_6 : List Int) : Inn := ⟨[.c (.d (.pt f)), .agg [.d (.int .u16 s_0), .d (.int .u16 s_1), .d (.int .u32 s_2), .d (.int .u32 s_3), .d (.int .u8 s_4), .d (.sl (.pair (.int .u8) (.slice (.int .u8))) s_5), .d (.sl (.int .u8) s_6)]], [], [], 0⟩
def f60_filter_match_out (r : Bool) : Out := ⟨oc (.d (.bool r)), [], [], 0⟩
def f60_filter_match : Nat → PT → Int → Int → Int → Int → Int → (List (Int × List Int)) → (List Int) → Option (Bool)
  | 0, _, _, _, _, _, _, _, _ => none
  | n + 1, f, s_0, s_1, s_2, s_3, s_4, s_5, s_6 =>
    if PT.isNil f = false then
    if (((PT.op f) : Int) == 1) = true then
      some true
    else
      if (((PT.op f) : Int) == 2) = true then
        if PT.isNil f = false then
        some (((bits .and .i64 (IntKind.wrap .i64 s_4) (PT.num f)) : Int) != 0)
        else none
      else
        if (((PT.op f) : Int) == 3) = true then
          if PT.isNil f = false then
          if (((IntKind.wrap .i64 s_0) : Int) == (PT.num f)) = true then
            some true
          else
            if PT.isNil f = false then
            some (((IntKind.wrap .i64 s_1) : Int) == (PT.num f))
            else none
          else none
        else
          if (((PT.op f) : Int) == 4) = true then
            if PT.isNil f = false then
            some (((IntKind.wrap .i64 s_0) : Int) == (PT.num f))
            else none
          else
            if (((PT.op f) : Int) == 5) = true then
              if PT.isNil f = false then
              some (((IntKind.wrap .i64 s_1) : Int) == (PT.num f))
              else none
            else
              if (((PT.op f) : Int) == 6) = true then
                if PT.isNil f = false then
                (f89_seg_First n s_0 s_1 s_2 s_3 s_4 s_5 s_6 (IntKind.wrap .u8 (PT.num f))).bind fun r574_1 =>
                some r574_1.1
                else none
              else
                if (((PT.op f) : Int) == 7) = true then
                  if PT.isNil f = false then
                  some (decide ((((s_6.length : Nat) : Int) : Int) ≥ (PT.num f)))
                  else none
                else
                  if (((PT.op f) : Int) == 11) = true then
                    some ((((s_6.length : Nat) : Int) : Int) == 0)
                  else
                    if (((PT.op f) : Int) == 8) = true then
                      if PT.isNil f = false then
                      ((f60_filter_match n) (PT.fst f) s_0 s_1 s_2 s_3 s_4 s_5 s_6).bind fun r592_1 =>
                      some (!r592_1)
                      else none
                    else
                      if (((PT.op f) : Int) == 9) = true then
                        if PT.isNil f = false then
                        ((f60_filter_match n) (PT.fst f) s_0 s_1 s_2 s_3 s_4 s_5 s_6).bind fun r594_1 =>
                        if r594_1 = true then
                          if PT.isNil f = false then
                          ((f60_filter_match n) (PT.snd f) s_0 s_1 s_2 s_3 s_4 s_5 s_6).bind fun r594_3 =>
                          some r594_3
                          else none
                        else
                          some false
                        else none
                      else
                        if PT.isNil f = false then
                        ((f60_filter_match n) (PT.fst f) s_0 s_1 s_2 s_3 s_4 s_5 s_6).bind fun r595_1 =>
                        if r595_1 = true then
                          some true
                        else
                          if PT.isNil f = false then
                          ((f60_filter_match n) (PT.snd f) s_0 s_1 s_2 s_3 s_4 s_5 s_6).bind fun r595_3 =>
                          some r595_3
                          else none
                        else none
    else none
theorem f60_filter_match_ok (n : Nat) : ∀ (f : PT) (s_0 : Int) (s_1 : Int) (s_2 : Int) (s_3 : Int) (s_4 : Int) (s_5 : List (Int × List Int)) (s_6 : List Int) (r : Bool) (h : f60_filter_match n f s_0 s_1 s_2 s_3 s_4 s_5 s_6 = some r), FnOK Tryd.prog 60 (f60_filter_match_in f s_0 s_1 s_2 s_3 s_4 s_5 s_6) (f60_filter_match_out r) := by
  induction n with
  | zero => intro f s_0 s_1 s_2 s_3 s_4 s_5 s_6 r h; rw [f60_filter_match] at h; cases h
  | succ n ih =>
    intro f s_0 s_1 s_2 s_3 s_4 s_5 s_6 r h
    rw [f60_filter_match] at h
    refine At.fn (r := 0) Tryd.func60 rfl (by kernel_rfl) rfl rfl (by kernel_rfl) ?_
    show At Tryd.prog Tryd.f60 0 0 ⟨[(0, oc (.d (.pt f))), (1, .one (.agg [.d (.int .u16 s_0), .d (.int .u16 s_1), .d (.int .u32 s_2), .d (.int .u32 s_3), .d (.int .u8 s_4), .d (.sl (.pair (.int .u8) (.slice (.int .u8))) s_5), .d (.sl (.int .u8) s_6)]))], [], [], 0⟩ _
    refine At.step hm ht ⟨[], [], [], [0, 3], [0]⟩ 1 ⟨[(0, oc (.d (.pt f))), (3, oc (.ptr 0 0))], [], [(0, [.d (.int .u16 s_0), .d (.int .u16 s_1), .d (.int .u32 s_2), .d (.int .u32 s_3), .d (.int .u8 s_4), .d (.sl (.pair (.int .u8) (.slice (.int .u8))) s_5), .d (.sl (.int .u8) s_6)])], 1⟩ [] (by kernel_rfl) trivial ?_
    obtain ⟨g562_0, h⟩ := ifS h
    refine At.step hm ht ⟨[], [], [], [0, 3, 10], [0]⟩ 2 ⟨[(0, oc (.d (.pt f))), (3, oc (.ptr 0 0)), (10, oc (zi (PT.op f)))], [], [(0, [.d (.int .u16 s_0), .d (.int .u16 s_1), .d (.int .u32 s_2), .d (.int .u32 s_3), .d (.int .u8 s_4), .d (.sl (.pair (.int .u8) (.slice (.int .u8))) s_5), .d (.sl (.int .u8) s_6)])], 1⟩ [PT.isNil f = false] (by kernel_rfl) ⟨g562_0, trivial⟩ ?_
    rcases iteS h with ⟨b563_e0, h⟩ | ⟨b563_e0, h⟩
    · refine At.step hm ht ⟨[], [true], [], [], []⟩ 3 ⟨[], [], [], 0⟩ [(((PT.op f) : Int) == 1) = true] (by kernel_rfl) ⟨b563_e0, trivial⟩ ?_
      have h := Option.some.inj h
      subst h
      exact At.fin hm ht ⟨[], [], [], [4], []⟩ [] (by kernel_rfl) trivial
    · refine At.step hm ht ⟨[], [false], [], [0, 3, 10], [0]⟩ 4 ⟨[(0, oc (.d (.pt f))), (3, oc (.ptr 0 0)), (10, oc (zi (PT.op f)))], [], [(0, [.d (.int .u16 s_0), .d (.int .u16 s_1), .d (.int .u32 s_2), .d (.int .u32 s_3), .d (.int .u8 s_4), .d (.sl (.pair (.int .u8) (.slice (.int .u8))) s_5), .d (.sl (.int .u8) s_6)])], 1⟩ [(((PT.op f) : Int) == 1) = false] (by kernel_rfl) ⟨b563_e0, trivial⟩ ?_
      rcases iteS h with ⟨b565_e0, h⟩ | ⟨b565_e0, h⟩
      · refine At.step hm ht ⟨[], [true], [], [0, 3], [0]⟩ 5 ⟨[(0, oc (.d (.pt f))), (3, oc (.ptr 0 0))], [], [(0, [.d (.int .u16 s_0), .d (.int .u16 s_1), .d (.int .u32 s_2), .d (.int .u32 s_3), .d (.int .u8 s_4), .d (.sl (.pair (.int .u8) (.slice (.int .u8))) s_5), .d (.sl (.int .u8) s_6)])], 1⟩ [(((PT.op f) : Int) == 2) = true] (by kernel_rfl) ⟨b565_e0, trivial⟩ ?_
        obtain ⟨g566_0, h⟩ := ifS h
        have h := Option.some.inj h
        subst h
        exact At.fin hm ht ⟨[], [], [], [4], []⟩ [PT.isNil f = false] (by kernel_rfl) ⟨g566_0, trivial⟩
      · refine At.step hm ht ⟨[], [false], [], [0, 3, 10], [0]⟩ 6 ⟨[(0, oc (.d (.pt f))), (3, oc (.ptr 0 0)), (10, oc (zi (PT.op f)))], [], [(0, [.d (.int .u16 s_0), .d (.int .u16 s_1), .d (.int .u32 s_2), .d (.int .u32 s_3), .d (.int .u8 s_4), .d (.sl (.pair (.int .u8) (.slice (.int .u8))) s_5), .d (.sl (.int .u8) s_6)])], 1⟩ [(((PT.op f) : Int) == 2) = false] (by kernel_rfl) ⟨b565_e0, trivial⟩ ?_
        rcases iteS h with ⟨b567_e0, h⟩ | ⟨b567_e0, h⟩
        · refine At.step hm ht ⟨[], [true], [], [0, 3], [0]⟩ 7 ⟨[(0, oc (.d (.pt f))), (3, oc (.ptr 0 0))], [], [(0, [.d (.int .u16 s_0), .d (.int .u16 s_1), .d (.int .u32 s_2), .d (.int .u32 s_3), .d (.int .u8 s_4), .d (.sl (.pair (.int .u8) (.slice (.int .u8))) s_5), .d (.sl (.int .u8) s_6)])], 1⟩ [(((PT.op f) : Int) == 3) = true] (by kernel_rfl) ⟨b567_e0, trivial⟩ ?_
          obtain ⟨g568_0, h⟩ := ifS h
          rcases iteS h with ⟨b568_8, h⟩ | ⟨b568_8, h⟩
          · have h := Option.some.inj h
            subst h
            exact At.fin hm ht ⟨[(8, .b true)], [], [], [4], []⟩ [PT.isNil f = false, (((IntKind.wrap .i64 s_0) : Int) == (PT.num f)) = true] (by kernel_rfl) ⟨g568_0, b568_8, trivial⟩
          · obtain ⟨g568_1, h⟩ := ifS h
            have h := Option.some.inj h
            subst h
            exact At.fin hm ht ⟨[(8, .b false)], [], [], [4], []⟩ [PT.isNil f = false, (((IntKind.wrap .i64 s_0) : Int) == (PT.num f)) = false, PT.isNil f = false] (by kernel_rfl) ⟨g568_0, b568_8, g568_1, trivial⟩
        · refine At.step hm ht ⟨[], [false], [], [0, 3, 10], [0]⟩ 8 ⟨[(0, oc (.d (.pt f))), (3, oc (.ptr 0 0)), (10, oc (zi (PT.op f)))], [], [(0, [.d (.int .u16 s_0), .d (.int .u16 s_1), .d (.int .u32 s_2), .d (.int .u32 s_3), .d (.int .u8 s_4), .d (.sl (.pair (.int .u8) (.slice (.int .u8))) s_5), .d (.sl (.int .u8) s_6)])], 1⟩ [(((PT.op f) : Int) == 3) = false] (by kernel_rfl) ⟨b567_e0, trivial⟩ ?_
          rcases iteS h with ⟨b569_e0, h⟩ | ⟨b569_e0, h⟩
          · refine At.step hm ht ⟨[], [true], [], [0, 3], [0]⟩ 9 ⟨[(0, oc (.d (.pt f))), (3, oc (.ptr 0 0))], [], [(0, [.d (.int .u16 s_0), .d (.int .u16 s_1), .d (.int .u32 s_2), .d (.int .u32 s_3), .d (.int .u8 s_4), .d (.sl (.pair (.int .u8) (.slice (.int .u8))) s_5), .d (.sl (.int .u8) s_6)])], 1⟩ [(((PT.op f) : Int) == 4) = true] (by kernel_rfl) ⟨b569_e0, trivial⟩ ?_
            obtain ⟨g570_0, h⟩ := ifS h
            have h := Option.some.inj h
            subst h
            exact At.fin hm ht ⟨[], [], [], [4], []⟩ [PT.isNil f = false] (by kernel_rfl) ⟨g570_0, trivial⟩
          · refine At.step hm ht ⟨[], [false], [], [0, 3, 10], [0]⟩ 10 ⟨[(0, oc (.d (.pt f))), (3, oc (.ptr 0 0)), (10, oc (zi (PT.op f)))], [], [(0, [.d (.int .u16 s_0), .d (.int .u16 s_1), .d (.int .u32 s_2), .d (.int .u32 s_3), .d (.int .u8 s_4), .d (.sl (.pair (.int .u8) (.slice (.int .u8))) s_5), .d (.sl (.int .u8) s_6)])], 1⟩ [(((PT.op f) : Int) == 4) = false] (by kernel_rfl) ⟨b569_e0, trivial⟩ ?_
            rcases iteS h with ⟨b571_e0, h⟩ | ⟨b571_e0, h⟩
            · refine At.step hm ht ⟨[], [true], [], [0, 3], [0]⟩ 11 ⟨[(0, oc (.d (.pt f))), (3, oc (.ptr 0 0))], [], [(0, [.d (.int .u16 s_0), .d (.int .u16 s_1), .d (.int .u32 s_2), .d (.int .u32 s_3), .d (.int .u8 s_4), .d (.sl (.pair (.int .u8) (.slice (.int .u8))) s_5), .d (.sl (.int .u8) s_6)])], 1⟩ [(((PT.op f) : Int) == 5) = true] (by kernel_rfl) ⟨b571_e0, trivial⟩ ?_
              obtain ⟨g572_0, h⟩ := ifS h
              have h := Option.some.inj h
              subst h
              exact At.fin hm ht ⟨[], [], [], [4], []⟩ [PT.isNil f = false] (by kernel_rfl) ⟨g572_0, trivial⟩
            · refine At.step hm ht ⟨[], [false], [], [0, 3, 10], [0]⟩ 12 ⟨[(0, oc (.d (.pt f))), (3, oc (.ptr 0 0)), (10, oc (zi (PT.op f)))], [], [(0, [.d (.int .u16 s_0), .d (.int .u16 s_1), .d (.int .u32 s_2), .d (.int .u32 s_3), .d (.int .u8 s_4), .d (.sl (.pair (.int .u8) (.slice (.int .u8))) s_5), .d (.sl (.int .u8) s_6)])], 1⟩ [(((PT.op f) : Int) == 5) = false] (by kernel_rfl) ⟨b571_e0, trivial⟩ ?_
              rcases iteS h with ⟨b573_e0, h⟩ | ⟨b573_e0, h⟩
              · refine At.step hm ht ⟨[], [true], [], [0, 3], [0]⟩ 13 ⟨[(0, oc (.d (.pt f))), (3, oc (.ptr 0 0))], [], [(0, [.d (.int .u16 s_0), .d (.int .u16 s_1), .d (.int .u32 s_2), .d (.int .u32 s_3), .d (.int .u8 s_4), .d (.sl (.pair (.int .u8) (.slice (.int .u8))) s_5), .d (.sl (.int .u8) s_6)])], 1⟩ [(((PT.op f) : Int) == 6) = true] (by kernel_rfl) ⟨b573_e0, trivial⟩ ?_
                obtain ⟨g574_0, h⟩ := ifS h
                obtain ⟨r574_1, cr574_1, h⟩ := bindS h
                refine At.step hm ht ⟨[(6, .call [] [] (f89_seg_First_out r574_1))], [], [], [6], []⟩ 14 ⟨[(6, oc (.d (.bool r574_1.1)))], [], [], 0⟩ [PT.isNil f = false, FnOK Tryd.prog 89 (f89_seg_First_in s_0 s_1 s_2 s_3 s_4 s_5 s_6 (IntKind.wrap .u8 (PT.num f))) (f89_seg_First_out r574_1), 0 + 2 ≤ 2] (by kernel_rfl) ⟨g574_0, (f89_seg_First_ok n s_0 s_1 s_2 s_3 s_4 s_5 s_6 (IntKind.wrap .u8 (PT.num f)) r574_1 cr574_1), (by decide), trivial⟩ ?_
                have h := Option.some.inj h
                subst h
                exact At.fin hm ht ⟨[], [], [], [4], []⟩ [] (by kernel_rfl) trivial
              · refine At.step hm ht ⟨[], [false], [], [0, 3, 10], [0]⟩ 15 ⟨[(0, oc (.d (.pt f))), (3, oc (.ptr 0 0)), (10, oc (zi (PT.op f)))], [], [(0, [.d (.int .u16 s_0), .d (.int .u16 s_1), .d (.int .u32 s_2), .d (.int .u32 s_3), .d (.int .u8 s_4), .d (.sl (.pair (.int .u8) (.slice (.int .u8))) s_5), .d (.sl (.int .u8) s_6)])], 1⟩ [(((PT.op f) : Int) == 6) = false] (by kernel_rfl) ⟨b573_e0, trivial⟩ ?_
                rcases iteS h with ⟨b587_e0, h⟩ | ⟨b587_e0, h⟩
                · refine At.step hm ht ⟨[], [true], [], [0, 3], [0]⟩ 16 ⟨[(0, oc (.d (.pt f))), (3, oc (.ptr 0 0))], [], [(0, [.d (.int .u16 s_0), .d (.int .u16 s_1), .d (.int .u32 s_2), .d (.int .u32 s_3), .d (.int .u8 s_4), .d (.sl (.pair (.int .u8) (.slice (.int .u8))) s_5), .d (.sl (.int .u8) s_6)])], 1⟩ [(((PT.op f) : Int) == 7) = true] (by kernel_rfl) ⟨b587_e0, trivial⟩ ?_
                  obtain ⟨g588_0, h⟩ := ifS h
                  have h := Option.some.inj h
                  subst h
                  exact At.fin hm ht ⟨[], [], [], [4], []⟩ [PT.isNil f = false] (by kernel_rfl) ⟨g588_0, trivial⟩
                · refine At.step hm ht ⟨[], [false], [], [0, 3, 10], [0]⟩ 17 ⟨[(0, oc (.d (.pt f))), (3, oc (.ptr 0 0)), (10, oc (zi (PT.op f)))], [], [(0, [.d (.int .u16 s_0), .d (.int .u16 s_1), .d (.int .u32 s_2), .d (.int .u32 s_3), .d (.int .u8 s_4), .d (.sl (.pair (.int .u8) (.slice (.int .u8))) s_5), .d (.sl (.int .u8) s_6)])], 1⟩ [(((PT.op f) : Int) == 7) = false] (by kernel_rfl) ⟨b587_e0, trivial⟩ ?_
                  rcases iteS h with ⟨b589_e0, h⟩ | ⟨b589_e0, h⟩
                  · refine At.step hm ht ⟨[], [true], [], [3], [0]⟩ 18 ⟨[(3, oc (.ptr 0 0))], [], [(0, [.d (.int .u16 s_0), .d (.int .u16 s_1), .d (.int .u32 s_2), .d (.int .u32 s_3), .d (.int .u8 s_4), .d (.sl (.pair (.int .u8) (.slice (.int .u8))) s_5), .d (.sl (.int .u8) s_6)])], 1⟩ [(((PT.op f) : Int) == 11) = true] (by kernel_rfl) ⟨b589_e0, trivial⟩ ?_
                    have h := Option.some.inj h
                    subst h
                    exact At.fin hm ht ⟨[], [], [], [4], []⟩ [] (by kernel_rfl) trivial
                  · refine At.step hm ht ⟨[], [false], [], [0, 3, 10], [0]⟩ 19 ⟨[(0, oc (.d (.pt f))), (3, oc (.ptr 0 0)), (10, oc (zi (PT.op f)))], [], [(0, [.d (.int .u16 s_0), .d (.int .u16 s_1), .d (.int .u32 s_2), .d (.int .u32 s_3), .d (.int .u8 s_4), .d (.sl (.pair (.int .u8) (.slice (.int .u8))) s_5), .d (.sl (.int .u8) s_6)])], 1⟩ [(((PT.op f) : Int) == 11) = false] (by kernel_rfl) ⟨b589_e0, trivial⟩ ?_
                    rcases iteS h with ⟨b591_e0, h⟩ | ⟨b591_e0, h⟩
                    · refine At.step hm ht ⟨[], [true], [], [0, 3], [0]⟩ 20 ⟨[(0, oc (.d (.pt f))), (3, oc (.ptr 0 0))], [], [(0, [.d (.int .u16 s_0), .d (.int .u16 s_1), .d (.int .u32 s_2), .d (.int .u32 s_3), .d (.int .u8 s_4), .d (.sl (.pair (.int .u8) (.slice (.int .u8))) s_5), .d (.sl (.int .u8) s_6)])], 1⟩ [(((PT.op f) : Int) == 8) = true] (by kernel_rfl) ⟨b591_e0, trivial⟩ ?_
                      obtain ⟨g592_0, h⟩ := ifS h
                      obtain ⟨r592_1, cr592_1, h⟩ := bindS h
                      have h := Option.some.inj h
                      subst h
                      exact At.fin hm ht ⟨[(5, .call [] [] (f60_filter_match_out r592_1))], [], [], [4], []⟩ [PT.isNil f = false, FnOK Tryd.prog 60 (f60_filter_match_in (PT.fst f) s_0 s_1 s_2 s_3 s_4 s_5 s_6) (f60_filter_match_out r592_1)] (by kernel_rfl) ⟨g592_0, (ih (PT.fst f) s_0 s_1 s_2 s_3 s_4 s_5 s_6 r592_1 cr592_1), trivial⟩
                    · refine At.step hm ht ⟨[], [false], [], [0, 3, 10], [0]⟩ 21 ⟨[(0, oc (.d (.pt f))), (3, oc (.ptr 0 0)), (10, oc (zi (PT.op f)))], [], [(0, [.d (.int .u16 s_0), .d (.int .u16 s_1), .d (.int .u32 s_2), .d (.int .u32 s_3), .d (.int .u8 s_4), .d (.sl (.pair (.int .u8) (.slice (.int .u8))) s_5), .d (.sl (.int .u8) s_6)])], 1⟩ [(((PT.op f) : Int) == 8) = false] (by kernel_rfl) ⟨b591_e0, trivial⟩ ?_
                      rcases iteS h with ⟨b593_e0, h⟩ | ⟨b593_e0, h⟩
                      · refine At.step hm ht ⟨[], [true], [], [0, 3], [0]⟩ 22 ⟨[(0, oc (.d (.pt f))), (3, oc (.ptr 0 0))], [], [(0, [.d (.int .u16 s_0), .d (.int .u16 s_1), .d (.int .u32 s_2), .d (.int .u32 s_3), .d (.int .u8 s_4), .d (.sl (.pair (.int .u8) (.slice (.int .u8))) s_5), .d (.sl (.int .u8) s_6)])], 1⟩ [(((PT.op f) : Int) == 9) = true] (by kernel_rfl) ⟨b593_e0, trivial⟩ ?_
                        obtain ⟨g594_0, h⟩ := ifS h
                        obtain ⟨r594_1, cr594_1, h⟩ := bindS h
                        rcases iteS h with ⟨b594_6, h⟩ | ⟨b594_6, h⟩
                        · obtain ⟨g594_2, h⟩ := ifS h
                          obtain ⟨r594_3, cr594_3, h⟩ := bindS h
                          have h := Option.some.inj h
                          subst h
                          exact At.fin hm ht ⟨[(5, .call [] [] (f60_filter_match_out r594_1)), (6, .b true), (12, .call [] [] (f60_filter_match_out r594_3))], [], [], [4], []⟩ [PT.isNil f = false, FnOK Tryd.prog 60 (f60_filter_match_in (PT.fst f) s_0 s_1 s_2 s_3 s_4 s_5 s_6) (f60_filter_match_out r594_1), r594_1 = true, PT.isNil f = false, FnOK Tryd.prog 60 (f60_filter_match_in (PT.snd f) s_0 s_1 s_2 s_3 s_4 s_5 s_6) (f60_filter_match_out r594_3)] (by kernel_rfl) ⟨g594_0, (ih (PT.fst f) s_0 s_1 s_2 s_3 s_4 s_5 s_6 r594_1 cr594_1), b594_6, g594_2, (ih (PT.snd f) s_0 s_1 s_2 s_3 s_4 s_5 s_6 r594_3 cr594_3), trivial⟩
                        · have h := Option.some.inj h
                          subst h
                          exact At.fin hm ht ⟨[(5, .call [] [] (f60_filter_match_out r594_1)), (6, .b false)], [], [], [4], []⟩ [PT.isNil f = false, FnOK Tryd.prog 60 (f60_filter_match_in (PT.fst f) s_0 s_1 s_2 s_3 s_4 s_5 s_6) (f60_filter_match_out r594_1), r594_1 = false] (by kernel_rfl) ⟨g594_0, (ih (PT.fst f) s_0 s_1 s_2 s_3 s_4 s_5 s_6 r594_1 cr594_1), b594_6, trivial⟩
                      · refine At.step hm ht ⟨[], [false], [], [0, 3], [0]⟩ 23 ⟨[(0, oc (.d (.pt f))), (3, oc (.ptr 0 0))], [], [(0, [.d (.int .u16 s_0), .d (.int .u16 s_1), .d (.int .u32 s_2), .d (.int .u32 s_3), .d (.int .u8 s_4), .d (.sl (.pair (.int .u8) (.slice (.int .u8))) s_5), .d (.sl (.int .u8) s_6)])], 1⟩ [(((PT.op f) : Int) == 9) = false] (by kernel_rfl) ⟨b593_e0, trivial⟩ ?_
                        obtain ⟨g595_0, h⟩ := ifS h
                        obtain ⟨r595_1, cr595_1, h⟩ := bindS h
                        rcases iteS h with ⟨b595_6, h⟩ | ⟨b595_6, h⟩
                        · have h := Option.some.inj h
                          subst h
                          exact At.fin hm ht ⟨[(5, .call [] [] (f60_filter_match_out r595_1)), (6, .b true)], [], [], [4], []⟩ [PT.isNil f = false, FnOK Tryd.prog 60 (f60_filter_match_in (PT.fst f) s_0 s_1 s_2 s_3 s_4 s_5 s_6) (f60_filter_match_out r595_1), r595_1 = true] (by kernel_rfl) ⟨g595_0, (ih (PT.fst f) s_0 s_1 s_2 s_3 s_4 s_5 s_6 r595_1 cr595_1), b595_6, trivial⟩
                        · obtain ⟨g595_2, h⟩ := ifS h
                          obtain ⟨r595_3, cr595_3, h⟩ := bindS h
                          have h := Option.some.inj h
                          subst h
                          exact At.fin hm ht ⟨[(5, .call [] [] (f60_filter_match_out r595_1)), (6, .b false), (12, .call [] [] (f60_filter_match_out r595_3))], [], [], [4], []⟩ [PT.isNil f = false, FnOK Tryd.prog 60 (f60_filter_match_in (PT.fst f) s_0 s_1 s_2 s_3 s_4 s_5 s_6) (f60_filter_match_out r595_1), r595_1 = false, PT.isNil f = false, FnOK Tryd.prog 60 (f60_filter_match_in (PT.snd f) s_0 s_1 s_2 s_3 s_4 s_5 s_6) (f60_filter_match_out r595_3)] (by kernel_rfl) ⟨g595_0, (ih (PT.fst f) s_0 s_1 s_2 s_3 s_4 s_5 s_6 r595_1 cr595_1), b595_6, g595_2, (ih (PT.snd f) s_0 s_1 s_2 s_3 s_4 s_5 s_6 r595_3 cr595_3), trivial⟩
/-! brougham/filter.Match -/
def f32_filter_Match_in (f : PT) (s_0 : Int) (s_1 : Int) (s_2 : Int) (s_3 : Int) (s_4 : Int) (s_5 : List (Int × List Int)) (s_6 : List Int) : Inn := ⟨[.c (.d (.pt f)), .agg [.d (.int .u16 s_0), .d (.int .u16 s_1), .d (.int .u32 s_2), .d (.int .u32 s_3), .d (.int .u8 s_4), .d (.sl (.pair (.int .u8) (.slice (.int .u8))) s_5), .d (.sl (.int .u8) s_6)]], [], [], 0⟩
def f32_filter_Match_out (r : Bool) : Out := ⟨oc (.d (.bool r)), [], [], 0⟩
def f32_filter_Match (n : Nat) (f : PT) (s_0 : Int) (s_1 : Int) (s_2 : Int) (s_3 : Int) (s_4 : Int) (s_5 : List (Int × List Int)) (s_6 : List Int) : Option (Bool) :=
  (f31_filter_Right n f).bind fun r560_0 =>
  if r560_0 = true then
    (f60_filter_match n f s_0 s_1 s_2 s_3 s_4 s_5 s_6).bind fun r560_1 =>
    some r560_1
  else
    some false
theorem f32_filter_Match_ok (n : Nat) (f : PT) (s_0 : Int) (s_1 : Int) (s_2 : Int) (s_3 : Int) (s_4 : Int) (s_5 : List (Int × List Int)) (s_6 : List Int) (r : Bool) (h : f32_filter_Match n f s_0 s_1 s_2 s_3 s_4 s_5 s_6 = some r) : FnOK Tryd.prog 32 (f32_filter_Match_in f s_0 s_1 s_2 s_3 s_4 s_5 s_6) (f32_filter_Match_out r) := by
  unfold f32_filter_Match at h
  refine At.fn (r := 0) Tryd.func32 rfl (by kernel_rfl) rfl rfl (by kernel_rfl) ?_
  show At Tryd.prog Tryd.f32 0 0 ⟨[(0, oc (.d (.pt f))), (1, .one (.agg [.d (.int .u16 s_0), .d (.int .u16 s_1), .d (.int .u32 s_2), .d (.int .u32 s_3), .d (.int .u8 s_4), .d (.sl (.pair (.int .u8) (.slice (.int .u8))) s_5), .d (.sl (.int .u8) s_6)]))], [], [], 0⟩ _
  refine At.step hm ht ⟨[], [], [], [0, 3], [0]⟩ 1 ⟨[(0, oc (.d (.pt f))), (3, oc (.ptr 0 0))], [], [(0, [.d (.int .u16 s_0), .d (.int .u16 s_1), .d (.int .u32 s_2), .d (.int .u32 s_3), .d (.int .u8 s_4), .d (.sl (.pair (.int .u8) (.slice (.int .u8))) s_5), .d (.sl (.int .u8) s_6)])], 1⟩ [] (by kernel_rfl) trivial ?_
  obtain ⟨r560_0, cr560_0, h⟩ := bindS h
  rcases iteS h with ⟨b560_2, h⟩ | ⟨b560_2, h⟩
  · obtain ⟨r560_1, cr560_1, h⟩ := bindS h
    have h := Option.some.inj h
    subst h
    exact At.fin hm ht ⟨[(1, .call [] [] (f31_filter_Right_out r560_0)), (2, .b true), (5, .call [] [] (f60_filter_match_out r560_1))], [], [], [4], []⟩ [FnOK Tryd.prog 31 (f31_filter_Right_in f) (f31_filter_Right_out r560_0), r560_0 = true, FnOK Tryd.prog 60 (f60_filter_match_in f s_0 s_1 s_2 s_3 s_4 s_5 s_6) (f60_filter_match_out r560_1)] (by kernel_rfl) ⟨(f31_filter_Right_ok n f r560_0 cr560_0), b560_2, (f60_filter_match_ok n f s_0 s_1 s_2 s_3 s_4 s_5 s_6 r560_1 cr560_1), trivial⟩
  · have h := Option.some.inj h
    subst h
    exact At.fin hm ht ⟨[(1, .call [] [] (f31_filter_Right_out r560_0)), (2, .b false)], [], [], [4], []⟩ [FnOK Tryd.prog 31 (f31_filter_Right_in f) (f31_filter_Right_out r560_0), r560_0 = false] (by kernel_rfl) ⟨(f31_filter_Right_ok n f r560_0 cr560_0), b560_2, trivial⟩
/-! brougham/filter.right -/
def f59_filter_right_v2_in (left : Int) : Inn := ⟨[.c (.d (.nilP)), .c (zi left)], [], [], 0⟩
def f59_filter_right_v2_out (r : Bool) : Out := ⟨oc (.d (.bool r)), [], [], 0⟩
def f59_filter_right_v2 (left : Int) : Option (Bool) :=
  some false
theorem f59_filter_right_v2_ok (left : Int) (r : Bool) (h : f59_filter_right_v2 left = some r) : FnOK Tryd.prog 59 (f59_filter_right_v2_in left) (f59_filter_right_v2_out r) := by
  unfold f59_filter_right_v2 at h
  refine At.fn (r := 0) Tryd.func59 rfl (by kernel_rfl) rfl rfl (by kernel_rfl) ?_
  show At Tryd.prog Tryd.f59 0 0 ⟨[(0, oc (.d (.nilP))), (1, oc (zi left))], [], [], 0⟩ _
  refine At.step hm ht ⟨[], [], [], [0, 1], []⟩ 1 ⟨[(0, oc (.d (.nilP))), (1, oc (zi left))], [], [], 0⟩ [] (by kernel_rfl) trivial ?_
  refine At.step hm ht ⟨[], [true], [.nilpt 5], [], []⟩ 2 ⟨[], [], [], 0⟩ [true = true] (by kernel_rfl) ⟨rfl, trivial⟩ ?_
  have h := Option.some.inj h
  subst h
  exact At.fin hm ht ⟨[], [], [], [4], []⟩ [] (by kernel_rfl) trivial
/-! brougham/filter.Right -/
def f31_filter_Right_v2_in : Inn := ⟨[.c (.d (.nilP))], [], [], 0⟩
def f31_filter_Right_v2_out (r : Bool) : Out := ⟨oc (.d (.bool r)), [], [], 0⟩
def f31_filter_Right_v2 : Option (Bool) :=
  (f59_filter_right_v2 16).bind fun r597_0 =>
  some r597_0
theorem f31_filter_Right_v2_ok (r : Bool) (h : f31_filter_Right_v2 = some r) : FnOK Tryd.prog 31 (f31_filter_Right_v2_in) (f31_filter_Right_v2_out r) := by
  unfold f31_filter_Right_v2 at h
  refine At.fn (r := 0) Tryd.func31 rfl (by kernel_rfl) rfl rfl (by kernel_rfl) ?_
  show At Tryd.prog Tryd.f31 0 0 ⟨[(0, oc (.d (.nilP)))], [], [], 0⟩ _
  refine At.step hm ht ⟨[], [], [], [0], []⟩ 1 ⟨[(0, oc (.d (.nilP)))], [], [], 0⟩ [] (by kernel_rfl) trivial ?_
  obtain ⟨r597_0, cr597_0, h⟩ := bindS h
  have h := Option.some.inj h
  subst h
  exact At.fin hm ht ⟨[(1, .call [] [] (f59_filter_right_v2_out r597_0))], [], [.nilpt 3], [2], []⟩ [FnOK Tryd.prog 59 (f59_filter_right_v2_in 16) (f59_filter_right_v2_out r597_0)] (by kernel_rfl) ⟨(f59_filter_right_v2_ok 16 r597_0 cr597_0), trivial⟩
/-! brougham/broughamlaw35.alive -/
def f23_broughamlaw35_alive_in : Inn := ⟨[], [], [], 0⟩
def f23_broughamlaw35_alive_out (r : Bool) : Out := ⟨oc (.d (.bool r)), [], [], 0⟩
def f23_broughamlaw35_alive (n : Nat) : Option (Bool) :=
  (f21_filter_Parse n (⟨#[112, 111, 114, 116, 32, 56, 48, 32, 97, 110, 100, 32, 110, 111, 116, 32, 114, 115, 116]⟩ : ByteArray)).bind fun r523_0 =>
  if r523_0.2 = true then
    (f27_filter_Text n r523_0.1).bind fun r524_0 =>
    if (r524_0.toList == (⟨#[40, 32, 112, 111, 114, 116, 32, 56, 48, 32, 97, 110, 100, 32, 40, 32, 110, 111, 116, 32, 114, 115, 116, 32, 41, 32, 41]⟩ : ByteArray).toList) = true then
      (f32_filter_Match n r523_0.1 80 0 0 0 0 [] []).bind fun r524_1 =>
      if r524_1 = true then
        (f32_filter_Match n r523_0.1 80 0 0 0 4 [] []).bind fun r524_2 =>
        if (!r524_2) = true then
          (f31_filter_Right_v2).bind fun r524_3 =>
          some (!r524_3)
        else
          some false
      else
        some false
    else
      some false
  else
    some false
theorem f23_broughamlaw35_alive_ok (n : Nat) (r : Bool) (h : f23_broughamlaw35_alive n = some r) : FnOK Tryd.prog 23 (f23_broughamlaw35_alive_in) (f23_broughamlaw35_alive_out r) := by
  unfold f23_broughamlaw35_alive at h
  refine At.fn (r := 0) Tryd.func23 rfl (by kernel_rfl) rfl rfl (by kernel_rfl) ?_
  show At Tryd.prog Tryd.f23 0 0 ⟨[], [], [], 0⟩ _
  refine At.step hm ht ⟨[], [], [], [], []⟩ 1 ⟨[], [], [], 0⟩ [] (by kernel_rfl) trivial ?_
  obtain ⟨r523_0, cr523_0, h⟩ := bindS h
  refine At.step hm ht ⟨[(0, .call [] [] (f21_filter_Parse_out r523_0))], [], [], [1, 2], []⟩ 2 ⟨[(1, oc (.d (.pt r523_0.1))), (2, oc (.d (.bool r523_0.2)))], [], [], 0⟩ [FnOK Tryd.prog 21 (f21_filter_Parse_in (⟨#[112, 111, 114, 116, 32, 56, 48, 32, 97, 110, 100, 32, 110, 111, 116, 32, 114, 115, 116]⟩ : ByteArray)) (f21_filter_Parse_out r523_0)] (by kernel_rfl) ⟨(f21_filter_Parse_ok n (⟨#[112, 111, 114, 116, 32, 56, 48, 32, 97, 110, 100, 32, 110, 111, 116, 32, 114, 115, 116]⟩ : ByteArray) r523_0 cr523_0), trivial⟩ ?_
  rcases iteS h with ⟨b524_1, h⟩ | ⟨b524_1, h⟩
  · obtain ⟨r524_0, cr524_0, h⟩ := bindS h
    rcases iteS h with ⟨b524_6, h⟩ | ⟨b524_6, h⟩
    · obtain ⟨r524_1, cr524_1, h⟩ := bindS h
      rcases iteS h with ⟨b524_11, h⟩ | ⟨b524_11, h⟩
      · obtain ⟨r524_2, cr524_2, h⟩ := bindS h
        rcases iteS h with ⟨b524_17, h⟩ | ⟨b524_17, h⟩
        · obtain ⟨r524_3, cr524_3, h⟩ := bindS h
          have h := Option.some.inj h
          subst h
          exact At.fin hm ht ⟨[(1, .b true), (3, .call [] [] (f27_filter_Text_out r524_0)), (6, .b true), (9, .call [] [(1, 5, (.pair (.int .u8) (.slice (.int .u8)))), (1, 6, (.int .u8))] (f32_filter_Match_out r524_1)), (11, .b true), (14, .call [] [(1, 5, (.pair (.int .u8) (.slice (.int .u8)))), (1, 6, (.int .u8))] (f32_filter_Match_out r524_2)), (17, .b true), (18, .call [] [] (f31_filter_Right_v2_out r524_3))], [], [], [0], []⟩ [r523_0.2 = true, FnOK Tryd.prog 27 (f27_filter_Text_in r523_0.1) (f27_filter_Text_out r524_0), (r524_0.toList == (⟨#[40, 32, 112, 111, 114, 116, 32, 56, 48, 32, 97, 110, 100, 32, 40, 32, 110, 111, 116, 32, 114, 115, 116, 32, 41, 32, 41]⟩ : ByteArray).toList) = true, FnOK Tryd.prog 32 (f32_filter_Match_in r523_0.1 80 0 0 0 0 [] []) (f32_filter_Match_out r524_1), r524_1 = true, FnOK Tryd.prog 32 (f32_filter_Match_in r523_0.1 80 0 0 0 4 [] []) (f32_filter_Match_out r524_2), (!r524_2) = true, FnOK Tryd.prog 31 (f31_filter_Right_v2_in) (f31_filter_Right_v2_out r524_3)] (by kernel_rfl) ⟨b524_1, (f27_filter_Text_ok n r523_0.1 r524_0 cr524_0), b524_6, (f32_filter_Match_ok n r523_0.1 80 0 0 0 0 [] [] r524_1 cr524_1), b524_11, (f32_filter_Match_ok n r523_0.1 80 0 0 0 4 [] [] r524_2 cr524_2), b524_17, (f31_filter_Right_v2_ok r524_3 cr524_3), trivial⟩
        · have h := Option.some.inj h
          subst h
          exact At.fin hm ht ⟨[(1, .b true), (3, .call [] [] (f27_filter_Text_out r524_0)), (6, .b true), (9, .call [] [(1, 5, (.pair (.int .u8) (.slice (.int .u8)))), (1, 6, (.int .u8))] (f32_filter_Match_out r524_1)), (11, .b true), (14, .call [] [(1, 5, (.pair (.int .u8) (.slice (.int .u8)))), (1, 6, (.int .u8))] (f32_filter_Match_out r524_2)), (17, .b false)], [], [], [0], []⟩ [r523_0.2 = true, FnOK Tryd.prog 27 (f27_filter_Text_in r523_0.1) (f27_filter_Text_out r524_0), (r524_0.toList == (⟨#[40, 32, 112, 111, 114, 116, 32, 56, 48, 32, 97, 110, 100, 32, 40, 32, 110, 111, 116, 32, 114, 115, 116, 32, 41, 32, 41]⟩ : ByteArray).toList) = true, FnOK Tryd.prog 32 (f32_filter_Match_in r523_0.1 80 0 0 0 0 [] []) (f32_filter_Match_out r524_1), r524_1 = true, FnOK Tryd.prog 32 (f32_filter_Match_in r523_0.1 80 0 0 0 4 [] []) (f32_filter_Match_out r524_2), (!r524_2) = false] (by kernel_rfl) ⟨b524_1, (f27_filter_Text_ok n r523_0.1 r524_0 cr524_0), b524_6, (f32_filter_Match_ok n r523_0.1 80 0 0 0 0 [] [] r524_1 cr524_1), b524_11, (f32_filter_Match_ok n r523_0.1 80 0 0 0 4 [] [] r524_2 cr524_2), b524_17, trivial⟩
      · have h := Option.some.inj h
        subst h
        exact At.fin hm ht ⟨[(1, .b true), (3, .call [] [] (f27_filter_Text_out r524_0)), (6, .b true), (9, .call [] [(1, 5, (.pair (.int .u8) (.slice (.int .u8)))), (1, 6, (.int .u8))] (f32_filter_Match_out r524_1)), (11, .b false)], [], [], [0], []⟩ [r523_0.2 = true, FnOK Tryd.prog 27 (f27_filter_Text_in r523_0.1) (f27_filter_Text_out r524_0), (r524_0.toList == (⟨#[40, 32, 112, 111, 114, 116, 32, 56, 48, 32, 97, 110, 100, 32, 40, 32, 110, 111, 116, 32, 114, 115, 116, 32, 41, 32, 41]⟩ : ByteArray).toList) = true, FnOK Tryd.prog 32 (f32_filter_Match_in r523_0.1 80 0 0 0 0 [] []) (f32_filter_Match_out r524_1), r524_1 = false] (by kernel_rfl) ⟨b524_1, (f27_filter_Text_ok n r523_0.1 r524_0 cr524_0), b524_6, (f32_filter_Match_ok n r523_0.1 80 0 0 0 0 [] [] r524_1 cr524_1), b524_11, trivial⟩
    · have h := Option.some.inj h
      subst h
      exact At.fin hm ht ⟨[(1, .b true), (3, .call [] [] (f27_filter_Text_out r524_0)), (6, .b false)], [], [], [0], []⟩ [r523_0.2 = true, FnOK Tryd.prog 27 (f27_filter_Text_in r523_0.1) (f27_filter_Text_out r524_0), (r524_0.toList == (⟨#[40, 32, 112, 111, 114, 116, 32, 56, 48, 32, 97, 110, 100, 32, 40, 32, 110, 111, 116, 32, 114, 115, 116, 32, 41, 32, 41]⟩ : ByteArray).toList) = false] (by kernel_rfl) ⟨b524_1, (f27_filter_Text_ok n r523_0.1 r524_0 cr524_0), b524_6, trivial⟩
  · have h := Option.some.inj h
    subst h
    exact At.fin hm ht ⟨[(1, .b false)], [], [], [0], []⟩ [r523_0.2 = false] (by kernel_rfl) ⟨b524_1, trivial⟩
/-! brougham/broughamlaw35.Plain -/
def f25_broughamlaw35_Plain_in (f : PT) (levels : Int) : Inn := ⟨[.c (.d (.pt f)), .c (zi levels)], [], [], 0⟩
def f25_broughamlaw35_Plain_out (r : Int × Int × List (Int × Int × List FT)) : Out := ⟨.one (.agg [zi r.1, zi r.2.1, .own 1 (.pair (.int .i64) (.pair (.int .i64) .wood)) r.2.2]), [(1, ⟨42, 0⟩)], [(0, [zi r.1, zi r.2.1, .own 1 (.pair (.int .i64) (.pair (.int .i64) .wood)) r.2.2])], 2⟩
def f25_broughamlaw35_Plain : Nat → PT → Int → Option (Int × Int × List (Int × Int × List FT))
  | 0, _, _ => none
  | n + 1, f, levels =>
    if (PT.isNil f) = true then
      some (0, 0, [])
    else
      if ((levels : Int) == 0) = true then
        some (0, 0, [])
      else
        if PT.isNil f = false then
        if PT.isNil f = false then
        if PT.isNil f = false then
        if (!(PT.isNil (PT.fst f))) = true then
          if PT.isNil f = false then
          ((f25_broughamlaw35_Plain n) (PT.fst f) (IntKind.wrap .i64 (levels - 1))).bind fun r618_1 =>
          if [(r618_1.1, (r618_1.2.1, (r618_1.2.2.map FT.of)))].length ≤ maxLen ∧ [(r618_1.1, (r618_1.2.1, (r618_1.2.2.map FT.of)))].length * 40 ≤ 140737488355328 then
          if PT.isNil f = false then
          if (!(PT.isNil (PT.snd f))) = true then
            if PT.isNil f = false then
            ((f25_broughamlaw35_Plain n) (PT.snd f) (IntKind.wrap .i64 (levels - 1))).bind fun r620_1 =>
            if [(r618_1.1, (r618_1.2.1, (r618_1.2.2.map FT.of)))].length + [(r620_1.1, (r620_1.2.1, (r620_1.2.2.map FT.of)))].length ≤ maxLen ∧ ([(r618_1.1, (r618_1.2.1, (r618_1.2.2.map FT.of)))].length + [(r620_1.1, (r620_1.2.1, (r620_1.2.2.map FT.of)))].length) * 40 ≤ 140737488355328 then
            some ((PT.op f), (PT.num f), ([(r618_1.1, (r618_1.2.1, (r618_1.2.2.map FT.of)))] ++ [(r620_1.1, (r620_1.2.1, (r620_1.2.2.map FT.of)))]))
            else none
            else none
          else
            some ((PT.op f), (PT.num f), [(r618_1.1, (r618_1.2.1, (r618_1.2.2.map FT.of)))])
          else none
          else none
          else none
        else
          if PT.isNil f = false then
          if (!(PT.isNil (PT.snd f))) = true then
            if PT.isNil f = false then
            ((f25_broughamlaw35_Plain n) (PT.snd f) (IntKind.wrap .i64 (levels - 1))).bind fun r624_1 =>
            if [(r624_1.1, (r624_1.2.1, (r624_1.2.2.map FT.of)))].length ≤ maxLen ∧ [(r624_1.1, (r624_1.2.1, (r624_1.2.2.map FT.of)))].length * 40 ≤ 140737488355328 then
            some ((PT.op f), (PT.num f), [(r624_1.1, (r624_1.2.1, (r624_1.2.2.map FT.of)))])
            else none
            else none
          else
            some ((PT.op f), (PT.num f), [])
          else none
        else none
        else none
        else none
theorem f25_broughamlaw35_Plain_ok (n : Nat) : ∀ (f : PT) (levels : Int) (r : Int × Int × List (Int × Int × List FT)) (h : f25_broughamlaw35_Plain n f levels = some r), FnOK Tryd.prog 25 (f25_broughamlaw35_Plain_in f levels) (f25_broughamlaw35_Plain_out r) := by
  induction n with
  | zero => intro f levels r h; rw [f25_broughamlaw35_Plain] at h; cases h
  | succ n ih =>
    intro f levels r h
    rw [f25_broughamlaw35_Plain] at h
    refine At.fn (r := 0) Tryd.func25 rfl (by kernel_rfl) rfl rfl (by kernel_rfl) ?_
    show At Tryd.prog Tryd.f25 0 0 ⟨[(0, oc (.d (.pt f))), (1, oc (zi levels))], [], [], 0⟩ _
    refine At.step hm ht ⟨[], [], [], [0, 1, 4], [0]⟩ 1 ⟨[(0, oc (.d (.pt f))), (1, oc (zi levels)), (4, oc (.ptr 0 0))], [], [(0, [zi 0, zi 0, .d (.sl .unit [])])], 1⟩ [] (by kernel_rfl) trivial ?_
    rcases iteS h with ⟨b613_2, h⟩ | ⟨b613_2, h⟩
    · refine At.step hm ht ⟨[(2, .b true)], [true], [], [4], [0]⟩ 2 ⟨[(4, oc (.ptr 0 0))], [], [(0, [zi 0, zi 0, .d (.sl .unit [])])], 1⟩ [(PT.isNil f) = true, true = true] (by kernel_rfl) ⟨b613_2, rfl, trivial⟩ ?_
      have h := Option.some.inj h
      subst h
      exact At.fin hm ht ⟨[], [], [.nil true 0 2 (.pair (.int .i64) (.pair (.int .i64) .wood)) (some 42)], [4], [0, 3]⟩ [0 + 3 ≤ 3] (by kernel_rfl) ⟨(by decide), trivial⟩
    · rcases iteS h with ⟨b613_e0, h⟩ | ⟨b613_e0, h⟩
      · refine At.step hm ht ⟨[(2, .b false)], [true], [], [4], [0]⟩ 2 ⟨[(4, oc (.ptr 0 0))], [], [(0, [zi 0, zi 0, .d (.sl .unit [])])], 1⟩ [(PT.isNil f) = false, ((levels : Int) == 0) = true] (by kernel_rfl) ⟨b613_2, b613_e0, trivial⟩ ?_
        have h := Option.some.inj h
        subst h
        exact At.fin hm ht ⟨[], [], [.nil true 0 2 (.pair (.int .i64) (.pair (.int .i64) .wood)) (some 42)], [4], [0, 3]⟩ [0 + 3 ≤ 3] (by kernel_rfl) ⟨(by decide), trivial⟩
      · refine At.step hm ht ⟨[(2, .b false)], [false], [], [0, 1, 4], [0]⟩ 3 ⟨[(0, oc (.d (.pt f))), (1, oc (zi levels)), (4, oc (.ptr 0 0))], [], [(0, [zi 0, zi 0, .d (.sl .unit [])])], 1⟩ [(PT.isNil f) = false, ((levels : Int) == 0) = false] (by kernel_rfl) ⟨b613_2, b613_e0, trivial⟩ ?_
        obtain ⟨g616_0, h⟩ := ifS h
        obtain ⟨g616_1, h⟩ := ifS h
        refine At.step hm ht ⟨[], [], [], [0, 1, 4, 5], [0, 10]⟩ 4 ⟨[(0, oc (.d (.pt f))), (1, oc (zi levels)), (4, oc (.ptr 0 0)), (5, oc (.ptr 1 0))], [], [(0, [zi 0, zi 0, .d (.sl .unit [])]), (1, [zi (PT.op f), zi (PT.num f), .d (.sl .unit [])])], 2⟩ [PT.isNil f = false, PT.isNil f = false, 0 + 3 ≤ 3] (by kernel_rfl) ⟨g616_0, g616_1, (by decide), trivial⟩ ?_
        obtain ⟨g617_0, h⟩ := ifS h
        rcases iteS h with ⟨b617_e0, h⟩ | ⟨b617_e0, h⟩
        · refine At.step hm ht ⟨[], [true], [], [0, 1, 4, 5], [0, 1]⟩ 5 ⟨[(0, oc (.d (.pt f))), (1, oc (zi levels)), (4, oc (.ptr 0 0)), (5, oc (.ptr 1 0))], [], [(0, [zi 0, zi 0, .d (.sl .unit [])]), (1, [zi (PT.op f), zi (PT.num f), .d (.sl .unit [])])], 2⟩ [PT.isNil f = false, (!(PT.isNil (PT.fst f))) = true] (by kernel_rfl) ⟨g617_0, b617_e0, trivial⟩ ?_
          obtain ⟨g618_0, h⟩ := ifS h
          obtain ⟨r618_1, cr618_1, h⟩ := bindS h
          obtain ⟨g618_2, h⟩ := ifS h
          refine At.step hm ht ⟨[(8, .call [] [] (f25_broughamlaw35_Plain_out r618_1))], [], [], [0, 1, 4, 5], [0, 1, 13]⟩ 6 ⟨[(0, oc (.d (.pt f))), (1, oc (zi levels)), (4, oc (.ptr 0 0)), (5, oc (.ptr 1 0))], [(2, some ⟨42, 0⟩)], [(0, [zi 0, zi 0, .d (.sl .unit [])]), (1, [zi (PT.op f), zi (PT.num f), .own 2 (.pair (.int .i64) (.pair (.int .i64) .wood)) ([(r618_1.1, (r618_1.2.1, (r618_1.2.2.map FT.of)))] : List (Int × Int × List FT))])], 3⟩ [PT.isNil f = false, FnOK Tryd.prog 25 (f25_broughamlaw35_Plain_in (PT.fst f) (IntKind.wrap .i64 (levels - 1))) (f25_broughamlaw35_Plain_out r618_1), [(r618_1.1, (r618_1.2.1, (r618_1.2.2.map FT.of)))].length ≤ maxLen ∧ [(r618_1.1, (r618_1.2.1, (r618_1.2.2.map FT.of)))].length * 40 ≤ 140737488355328, 2 + 1 ≤ 3] (by kernel_rfl) ⟨g618_0, (ih (PT.fst f) (IntKind.wrap .i64 (levels - 1)) r618_1 cr618_1), g618_2, (by decide), trivial⟩ ?_
          obtain ⟨g619_0, h⟩ := ifS h
          rcases iteS h with ⟨b619_e0, h⟩ | ⟨b619_e0, h⟩
          · refine At.step hm ht ⟨[], [true], [], [0, 1, 4, 5], [0, 1, 2]⟩ 7 ⟨[(0, oc (.d (.pt f))), (1, oc (zi levels)), (4, oc (.ptr 0 0)), (5, oc (.ptr 1 0))], [(2, some ⟨42, 0⟩)], [(0, [zi 0, zi 0, .d (.sl .unit [])]), (1, [zi (PT.op f), zi (PT.num f), .own 2 (.pair (.int .i64) (.pair (.int .i64) .wood)) ([(r618_1.1, (r618_1.2.1, (r618_1.2.2.map FT.of)))] : List (Int × Int × List FT))])], 3⟩ [PT.isNil f = false, (!(PT.isNil (PT.snd f))) = true] (by kernel_rfl) ⟨g619_0, b619_e0, trivial⟩ ?_
            obtain ⟨g620_0, h⟩ := ifS h
            obtain ⟨r620_1, cr620_1, h⟩ := bindS h
            obtain ⟨g620_2, h⟩ := ifS h
            refine At.step hm ht ⟨[(8, .call [] [] (f25_broughamlaw35_Plain_out r620_1))], [], [], [4, 5], [0, 1, 14]⟩ 8 ⟨[(4, oc (.ptr 0 0)), (5, oc (.ptr 1 0))], [(2, some ⟨42, 0⟩)], [(0, [zi 0, zi 0, .d (.sl .unit [])]), (1, [zi (PT.op f), zi (PT.num f), .own 2 (.pair (.int .i64) (.pair (.int .i64) .wood)) ([(r618_1.1, (r618_1.2.1, (r618_1.2.2.map FT.of)))] ++ [(r620_1.1, (r620_1.2.1, (r620_1.2.2.map FT.of)))])])], 3⟩ [PT.isNil f = false, FnOK Tryd.prog 25 (f25_broughamlaw35_Plain_in (PT.snd f) (IntKind.wrap .i64 (levels - 1))) (f25_broughamlaw35_Plain_out r620_1), [(r618_1.1, (r618_1.2.1, (r618_1.2.2.map FT.of)))].length + [(r620_1.1, (r620_1.2.1, (r620_1.2.2.map FT.of)))].length ≤ maxLen ∧ ([(r618_1.1, (r618_1.2.1, (r618_1.2.2.map FT.of)))].length + [(r620_1.1, (r620_1.2.1, (r620_1.2.2.map FT.of)))].length) * 40 ≤ 140737488355328, 2 + 1 ≤ 3] (by kernel_rfl) ⟨g620_0, (ih (PT.snd f) (IntKind.wrap .i64 (levels - 1)) r620_1 cr620_1), g620_2, (by decide), trivial⟩ ?_
            have h := Option.some.inj h
            subst h
            exact At.fin hm ht ⟨[], [], [], [4], [0, 2]⟩ [0 + 3 ≤ 3] (by kernel_rfl) ⟨(by decide), trivial⟩
          · refine At.step hm ht ⟨[], [false], [], [4, 5], [0, 1, 2]⟩ 8 ⟨[(4, oc (.ptr 0 0)), (5, oc (.ptr 1 0))], [(2, some ⟨42, 0⟩)], [(0, [zi 0, zi 0, .d (.sl .unit [])]), (1, [zi (PT.op f), zi (PT.num f), .own 2 (.pair (.int .i64) (.pair (.int .i64) .wood)) ([(r618_1.1, (r618_1.2.1, (r618_1.2.2.map FT.of)))] : List (Int × Int × List FT))])], 3⟩ [PT.isNil f = false, (!(PT.isNil (PT.snd f))) = false] (by kernel_rfl) ⟨g619_0, b619_e0, trivial⟩ ?_
            have h := Option.some.inj h
            subst h
            exact At.fin hm ht ⟨[], [], [], [4], [0, 2]⟩ [0 + 3 ≤ 3] (by kernel_rfl) ⟨(by decide), trivial⟩
        · refine At.step hm ht ⟨[], [false], [], [0, 1, 4, 5], [0, 1]⟩ 6 ⟨[(0, oc (.d (.pt f))), (1, oc (zi levels)), (4, oc (.ptr 0 0)), (5, oc (.ptr 1 0))], [], [(0, [zi 0, zi 0, .d (.sl .unit [])]), (1, [zi (PT.op f), zi (PT.num f), .d (.sl .unit [])])], 2⟩ [PT.isNil f = false, (!(PT.isNil (PT.fst f))) = false] (by kernel_rfl) ⟨g617_0, b617_e0, trivial⟩ ?_
          obtain ⟨g623_0, h⟩ := ifS h
          rcases iteS h with ⟨b623_e0, h⟩ | ⟨b623_e0, h⟩
          · refine At.step hm ht ⟨[], [true], [], [0, 1, 4, 5], [0, 1]⟩ 7 ⟨[(0, oc (.d (.pt f))), (1, oc (zi levels)), (4, oc (.ptr 0 0)), (5, oc (.ptr 1 0))], [], [(0, [zi 0, zi 0, .d (.sl .unit [])]), (1, [zi (PT.op f), zi (PT.num f), .d (.sl .unit [])])], 2⟩ [PT.isNil f = false, (!(PT.isNil (PT.snd f))) = true] (by kernel_rfl) ⟨g623_0, b623_e0, trivial⟩ ?_
            obtain ⟨g624_0, h⟩ := ifS h
            obtain ⟨r624_1, cr624_1, h⟩ := bindS h
            obtain ⟨g624_2, h⟩ := ifS h
            refine At.step hm ht ⟨[(8, .call [] [] (f25_broughamlaw35_Plain_out r624_1))], [], [], [4, 5], [0, 1, 13]⟩ 8 ⟨[(4, oc (.ptr 0 0)), (5, oc (.ptr 1 0))], [(2, some ⟨42, 0⟩)], [(0, [zi 0, zi 0, .d (.sl .unit [])]), (1, [zi (PT.op f), zi (PT.num f), .own 2 (.pair (.int .i64) (.pair (.int .i64) .wood)) ([(r624_1.1, (r624_1.2.1, (r624_1.2.2.map FT.of)))] : List (Int × Int × List FT))])], 3⟩ [PT.isNil f = false, FnOK Tryd.prog 25 (f25_broughamlaw35_Plain_in (PT.snd f) (IntKind.wrap .i64 (levels - 1))) (f25_broughamlaw35_Plain_out r624_1), [(r624_1.1, (r624_1.2.1, (r624_1.2.2.map FT.of)))].length ≤ maxLen ∧ [(r624_1.1, (r624_1.2.1, (r624_1.2.2.map FT.of)))].length * 40 ≤ 140737488355328, 2 + 1 ≤ 3] (by kernel_rfl) ⟨g624_0, (ih (PT.snd f) (IntKind.wrap .i64 (levels - 1)) r624_1 cr624_1), g624_2, (by decide), trivial⟩ ?_
            have h := Option.some.inj h
            subst h
            exact At.fin hm ht ⟨[], [], [], [4], [0, 2]⟩ [0 + 3 ≤ 3] (by kernel_rfl) ⟨(by decide), trivial⟩
          · refine At.step hm ht ⟨[], [false], [], [4, 5], [0, 1]⟩ 8 ⟨[(4, oc (.ptr 0 0)), (5, oc (.ptr 1 0))], [], [(0, [zi 0, zi 0, .d (.sl .unit [])]), (1, [zi (PT.op f), zi (PT.num f), .d (.sl .unit [])])], 2⟩ [PT.isNil f = false, (!(PT.isNil (PT.snd f))) = false] (by kernel_rfl) ⟨g623_0, b623_e0, trivial⟩ ?_
            have h := Option.some.inj h
            subst h
            exact At.fin hm ht ⟨[], [], [.nil true 0 2 (.pair (.int .i64) (.pair (.int .i64) .wood)) (some 42)], [4], [0, 4]⟩ [0 + 3 ≤ 3] (by kernel_rfl) ⟨(by decide), trivial⟩
/-! brougham/broughamref35.Same -/
def f24_broughamref35_Same_in (a_0 : Int) (a_1 : Int) (a_2 : List (Int × Int × List FT)) (b_0 : Int) (b_1 : Int) (b_2 : List (Int × Int × List FT)) : Inn := ⟨[.agg [zi a_0, zi a_1, .d (.sl (.pair (.int .i64) (.pair (.int .i64) .wood)) a_2)], .agg [zi b_0, zi b_1, .d (.sl (.pair (.int .i64) (.pair (.int .i64) .wood)) b_2)]], [], [], 0⟩
def f24_broughamref35_Same_out (r : Bool) : Out := ⟨oc (.d (.bool r)), [], [], 0⟩
def f24_broughamref35_Same_L4 (rc_f24_broughamref35_Same : Int → Int → (List (Int × Int × List FT)) → Int → Int → (List (Int × Int × List FT)) → Option (Bool)) : Nat → Int → Int → Int → (List (Int × Int × List FT)) → Int → Int → (List (Int × Int × List FT)) → Option ((Bool) ⊕ (Unit))
  | 0, _, _, _, _, _, _, _ => none
  | n + 1, i, a_0, a_1, a_2, b_0, b_1, b_2 =>
    if (decide ((i : Int) < ((a_2.length : Nat) : Int))) = true then
      if (0 : Int) ≤ i ∧ i < (((a_2).length : Nat) : Int) then
      if (0 : Int) ≤ i ∧ i < (((b_2).length : Nat) : Int) then
      (rc_f24_broughamref35_Same ((a_2.getD i.toNat (0, (0, []))).1) (((a_2.getD i.toNat (0, (0, []))).2).1) ((((a_2.getD i.toNat (0, (0, []))).2).2).map FT.un) ((b_2.getD i.toNat (0, (0, []))).1) (((b_2.getD i.toNat (0, (0, []))).2).1) ((((b_2.getD i.toNat (0, (0, []))).2).2).map FT.un)).bind fun r634_2 =>
      if (!r634_2) = true then
        some (.inl false)
      else
        f24_broughamref35_Same_L4 rc_f24_broughamref35_Same n (IntKind.wrap .i64 (i + 1)) a_0 a_1 a_2 b_0 b_1 b_2
      else none
      else none
    else
      some (.inr ())
def f24_broughamref35_Same_L4_k (w : (Bool) ⊕ (Unit)) (o : Out) : Prop := match w with
  | .inl e => o = f24_broughamref35_Same_out e
  | .inr e => At Tryd.prog Tryd.f24 0 8 ⟨[], [], [], 0⟩ o
theorem f24_broughamref35_Same_L4_ok (rc_f24_broughamref35_Same : Int → Int → (List (Int × Int × List FT)) → Int → Int → (List (Int × Int × List FT)) → Option (Bool)) (hrc_f24_broughamref35_Same : ∀ (a_0 : Int) (a_1 : Int) (a_2 : List (Int × Int × List FT)) (b_0 : Int) (b_1 : Int) (b_2 : List (Int × Int × List FT)) (r : Bool) (h : rc_f24_broughamref35_Same a_0 a_1 a_2 b_0 b_1 b_2 = some r), FnOK Tryd.prog 24 (f24_broughamref35_Same_in a_0 a_1 a_2 b_0 b_1 b_2) (f24_broughamref35_Same_out r)) (n : Nat) : ∀ (i : Int) (a_0 : Int) (a_1 : Int) (a_2 : List (Int × Int × List FT)) (b_0 : Int) (b_1 : Int) (b_2 : List (Int × Int × List FT)) (w : (Bool) ⊕ (Unit)) (h : f24_broughamref35_Same_L4 rc_f24_broughamref35_Same n i a_0 a_1 a_2 b_0 b_1 b_2 = some w) (o : Out) (hk : f24_broughamref35_Same_L4_k w o), At Tryd.prog Tryd.f24 0 4 ⟨[(2, oc (.ptr 0 0)), (3, oc (.ptr 1 0)), (5, oc (zi i))], [], [(0, [zi a_0, zi a_1, .d (.sl (.pair (.int .i64) (.pair (.int .i64) .wood)) a_2)]), (1, [zi b_0, zi b_1, .d (.sl (.pair (.int .i64) (.pair (.int .i64) .wood)) b_2)])], 2⟩ o := by
  induction n with
  | zero => intro i a_0 a_1 a_2 b_0 b_1 b_2 w h; rw [f24_broughamref35_Same_L4] at h; cases h
  | succ n ih =>
    intro i a_0 a_1 a_2 b_0 b_1 b_2 w h o hk
    rw [f24_broughamref35_Same_L4] at h
    rcases iteS h with ⟨b633_e0, h⟩ | ⟨b633_e0, h⟩
    · refine At.step hm ht ⟨[], [true], [], [2, 3, 5], [0, 1]⟩ 6 ⟨[(2, oc (.ptr 0 0)), (3, oc (.ptr 1 0)), (5, oc (zi i))], [], [(0, [zi a_0, zi a_1, .d (.sl (.pair (.int .i64) (.pair (.int .i64) .wood)) a_2)]), (1, [zi b_0, zi b_1, .d (.sl (.pair (.int .i64) (.pair (.int .i64) .wood)) b_2)])], 2⟩ [(decide ((i : Int) < ((a_2.length : Nat) : Int))) = true] (by kernel_rfl) ⟨b633_e0, trivial⟩ ?_
      obtain ⟨g634_0, h⟩ := ifS h
      obtain ⟨g634_1, h⟩ := ifS h
      obtain ⟨r634_2, cr634_2, h⟩ := bindS h
      rcases iteS h with ⟨b634_e0, h⟩ | ⟨b634_e0, h⟩
      · refine At.step hm ht ⟨[(10, .call [] [] (f24_broughamref35_Same_out r634_2))], [true], [], [], []⟩ 7 ⟨[], [], [], 0⟩ [(0 : Int) ≤ i ∧ i < (((a_2).length : Nat) : Int), (0 : Int) ≤ i ∧ i < (((b_2).length : Nat) : Int), FnOK Tryd.prog 24 (f24_broughamref35_Same_in ((a_2.getD i.toNat (0, (0, []))).1) (((a_2.getD i.toNat (0, (0, []))).2).1) ((((a_2.getD i.toNat (0, (0, []))).2).2).map FT.un) ((b_2.getD i.toNat (0, (0, []))).1) (((b_2.getD i.toNat (0, (0, []))).2).1) ((((b_2.getD i.toNat (0, (0, []))).2).2).map FT.un)) (f24_broughamref35_Same_out r634_2), (!r634_2) = true] (by kernel_rfl) ⟨g634_0, g634_1, (hrc_f24_broughamref35_Same ((a_2.getD i.toNat (0, (0, []))).1) (((a_2.getD i.toNat (0, (0, []))).2).1) ((((a_2.getD i.toNat (0, (0, []))).2).2).map FT.un) ((b_2.getD i.toNat (0, (0, []))).1) (((b_2.getD i.toNat (0, (0, []))).2).1) ((((b_2.getD i.toNat (0, (0, []))).2).2).map FT.un) r634_2 cr634_2), b634_e0, trivial⟩ ?_
        have h := Option.some.inj h
        subst h
        have hk : o = f24_broughamref35_Same_out false := hk
        subst hk
        exact At.fin hm ht ⟨[], [], [], [4], []⟩ [] (by kernel_rfl) trivial
      · refine At.step hm ht ⟨[(10, .call [] [] (f24_broughamref35_Same_out r634_2))], [false], [], [2, 3, 5], [0, 1]⟩ 5 ⟨[(2, oc (.ptr 0 0)), (3, oc (.ptr 1 0)), (5, oc (zi i))], [], [(0, [zi a_0, zi a_1, .d (.sl (.pair (.int .i64) (.pair (.int .i64) .wood)) a_2)]), (1, [zi b_0, zi b_1, .d (.sl (.pair (.int .i64) (.pair (.int .i64) .wood)) b_2)])], 2⟩ [(0 : Int) ≤ i ∧ i < (((a_2).length : Nat) : Int), (0 : Int) ≤ i ∧ i < (((b_2).length : Nat) : Int), FnOK Tryd.prog 24 (f24_broughamref35_Same_in ((a_2.getD i.toNat (0, (0, []))).1) (((a_2.getD i.toNat (0, (0, []))).2).1) ((((a_2.getD i.toNat (0, (0, []))).2).2).map FT.un) ((b_2.getD i.toNat (0, (0, []))).1) (((b_2.getD i.toNat (0, (0, []))).2).1) ((((b_2.getD i.toNat (0, (0, []))).2).2).map FT.un)) (f24_broughamref35_Same_out r634_2), (!r634_2) = false] (by kernel_rfl) ⟨g634_0, g634_1, (hrc_f24_broughamref35_Same ((a_2.getD i.toNat (0, (0, []))).1) (((a_2.getD i.toNat (0, (0, []))).2).1) ((((a_2.getD i.toNat (0, (0, []))).2).2).map FT.un) ((b_2.getD i.toNat (0, (0, []))).1) (((b_2.getD i.toNat (0, (0, []))).2).1) ((((b_2.getD i.toNat (0, (0, []))).2).2).map FT.un) r634_2 cr634_2), b634_e0, trivial⟩ ?_
        refine At.step hm ht ⟨[], [], [], [2, 3, 5], [0, 1]⟩ 4 ⟨[(2, oc (.ptr 0 0)), (3, oc (.ptr 1 0)), (5, oc (zi (IntKind.wrap .i64 (i + 1))))], [], [(0, [zi a_0, zi a_1, .d (.sl (.pair (.int .i64) (.pair (.int .i64) .wood)) a_2)]), (1, [zi b_0, zi b_1, .d (.sl (.pair (.int .i64) (.pair (.int .i64) .wood)) b_2)])], 2⟩ [] (by kernel_rfl) trivial ?_
        exact ih (IntKind.wrap .i64 (i + 1)) a_0 a_1 a_2 b_0 b_1 b_2 w h o hk
    · refine At.step hm ht ⟨[], [false], [], [], []⟩ 8 ⟨[], [], [], 0⟩ [(decide ((i : Int) < ((a_2.length : Nat) : Int))) = false] (by kernel_rfl) ⟨b633_e0, trivial⟩ ?_
      have h := Option.some.inj h
      subst h
      exact hk
def f24_broughamref35_Same : Nat → Int → Int → (List (Int × Int × List FT)) → Int → Int → (List (Int × Int × List FT)) → Option (Bool)
  | 0, _, _, _, _, _, _ => none
  | n + 1, a_0, a_1, a_2, b_0, b_1, b_2 =>
    if ((a_0 : Int) != b_0) = true then
      some false
    else
      if ((a_1 : Int) != b_1) = true then
        some false
      else
        if ((((a_2.length : Nat) : Int) : Int) != ((b_2.length : Nat) : Int)) = true then
          some false
        else
          (f24_broughamref35_Same_L4 (f24_broughamref35_Same n) n 0 a_0 a_1 a_2 b_0 b_1 b_2).bind fun w637 =>
          match w637 with
          | .inl e638 =>
            some e638
          | .inr e639 =>
            some true
theorem f24_broughamref35_Same_ok (n : Nat) : ∀ (a_0 : Int) (a_1 : Int) (a_2 : List (Int × Int × List FT)) (b_0 : Int) (b_1 : Int) (b_2 : List (Int × Int × List FT)) (r : Bool) (h : f24_broughamref35_Same n a_0 a_1 a_2 b_0 b_1 b_2 = some r), FnOK Tryd.prog 24 (f24_broughamref35_Same_in a_0 a_1 a_2 b_0 b_1 b_2) (f24_broughamref35_Same_out r) := by
  induction n with
  | zero => intro a_0 a_1 a_2 b_0 b_1 b_2 r h; rw [f24_broughamref35_Same] at h; cases h
  | succ n ih =>
    intro a_0 a_1 a_2 b_0 b_1 b_2 r h
    rw [f24_broughamref35_Same] at h
    refine At.fn (r := 0) Tryd.func24 rfl (by kernel_rfl) rfl rfl (by kernel_rfl) ?_
    show At Tryd.prog Tryd.f24 0 0 ⟨[(0, .one (.agg [zi a_0, zi a_1, .d (.sl (.pair (.int .i64) (.pair (.int .i64) .wood)) a_2)])), (1, .one (.agg [zi b_0, zi b_1, .d (.sl (.pair (.int .i64) (.pair (.int .i64) .wood)) b_2)]))], [], [], 0⟩ _
    refine At.step hm ht ⟨[], [], [], [2, 3], [0, 1]⟩ 1 ⟨[(2, oc (.ptr 0 0)), (3, oc (.ptr 1 0))], [], [(0, [zi a_0, zi a_1, .d (.sl (.pair (.int .i64) (.pair (.int .i64) .wood)) a_2)]), (1, [zi b_0, zi b_1, .d (.sl (.pair (.int .i64) (.pair (.int .i64) .wood)) b_2)])], 2⟩ [] (by kernel_rfl) trivial ?_
    rcases iteS h with ⟨b628_5, h⟩ | ⟨b628_5, h⟩
    · refine At.step hm ht ⟨[(5, .b true)], [true], [], [], []⟩ 2 ⟨[], [], [], 0⟩ [((a_0 : Int) != b_0) = true, true = true] (by kernel_rfl) ⟨b628_5, rfl, trivial⟩ ?_
      have h := Option.some.inj h
      subst h
      exact At.fin hm ht ⟨[], [], [], [4], []⟩ [] (by kernel_rfl) trivial
    · rcases iteS h with ⟨b628_12, h⟩ | ⟨b628_12, h⟩
      · refine At.step hm ht ⟨[(5, .b false), (12, .b true)], [true], [], [], []⟩ 2 ⟨[], [], [], 0⟩ [((a_0 : Int) != b_0) = false, ((a_1 : Int) != b_1) = true, true = true] (by kernel_rfl) ⟨b628_5, b628_12, rfl, trivial⟩ ?_
        have h := Option.some.inj h
        subst h
        exact At.fin hm ht ⟨[], [], [], [4], []⟩ [] (by kernel_rfl) trivial
      · rcases iteS h with ⟨b628_e0, h⟩ | ⟨b628_e0, h⟩
        · refine At.step hm ht ⟨[(5, .b false), (12, .b false)], [true], [], [], []⟩ 2 ⟨[], [], [], 0⟩ [((a_0 : Int) != b_0) = false, ((a_1 : Int) != b_1) = false, ((((a_2.length : Nat) : Int) : Int) != ((b_2.length : Nat) : Int)) = true] (by kernel_rfl) ⟨b628_5, b628_12, b628_e0, trivial⟩ ?_
          have h := Option.some.inj h
          subst h
          exact At.fin hm ht ⟨[], [], [], [4], []⟩ [] (by kernel_rfl) trivial
        · refine At.step hm ht ⟨[(5, .b false), (12, .b false)], [false], [], [2, 3], [0, 1]⟩ 3 ⟨[(2, oc (.ptr 0 0)), (3, oc (.ptr 1 0))], [], [(0, [zi a_0, zi a_1, .d (.sl (.pair (.int .i64) (.pair (.int .i64) .wood)) a_2)]), (1, [zi b_0, zi b_1, .d (.sl (.pair (.int .i64) (.pair (.int .i64) .wood)) b_2)])], 2⟩ [((a_0 : Int) != b_0) = false, ((a_1 : Int) != b_1) = false, ((((a_2.length : Nat) : Int) : Int) != ((b_2.length : Nat) : Int)) = false] (by kernel_rfl) ⟨b628_5, b628_12, b628_e0, trivial⟩ ?_
          refine At.step hm ht ⟨[], [], [], [2, 3, 5], [0, 1]⟩ 4 ⟨[(2, oc (.ptr 0 0)), (3, oc (.ptr 1 0)), (5, oc (zi 0))], [], [(0, [zi a_0, zi a_1, .d (.sl (.pair (.int .i64) (.pair (.int .i64) .wood)) a_2)]), (1, [zi b_0, zi b_1, .d (.sl (.pair (.int .i64) (.pair (.int .i64) .wood)) b_2)])], 2⟩ [] (by kernel_rfl) trivial ?_
          obtain ⟨w637, cw637, h⟩ := bindS h
          refine f24_broughamref35_Same_L4_ok (f24_broughamref35_Same n) ih n 0 a_0 a_1 a_2 b_0 b_1 b_2 w637 cw637 _ ?_
          rcases w637 with e638 | e639
          · have h := Option.some.inj h
            subst h
            rfl
          · show At Tryd.prog Tryd.f24 0 8 ⟨[], [], [], 0⟩ _
            have h := Option.some.inj h
            subst h
            exact At.fin hm ht ⟨[], [], [], [4], []⟩ [] (by kernel_rfl) trivial
/-! brougham/broughamlaw35.FilterReads -/
def f5_broughamlaw35_FilterReads_in (t : ByteArray) : Inn := ⟨[.c (.d (.str t))], [], [], 0⟩
def f5_broughamlaw35_FilterReads_out (r : Bool) : Out := ⟨oc (.d (.bool r)), [], [], 0⟩
def f5_broughamlaw35_FilterReads (n : Nat) (t : ByteArray) : Option (Bool) :=
  if (decide ((((t.size : Nat) : Int) : Int) > 5000)) = true then
    some true
  else
    (f21_filter_Parse n t).bind fun r4_0 =>
    (f22_broughamref35_Parse n t).bind fun r209_0 =>
    if (!r209_0.1) = true then
      if (!r4_0.2) = true then
        if (PT.isNil r4_0.1) = true then
          (f23_broughamlaw35_alive n).bind fun r521_0 =>
          some r521_0
        else
          some false
      else
        some false
    else
      if r4_0.2 = true then
        if (!(PT.isNil r4_0.1)) = true then
          (f25_broughamlaw35_Plain n r4_0.1 20).bind fun r601_0 =>
          (f24_broughamref35_Same n r601_0.1 r601_0.2.1 r601_0.2.2 r209_0.2.1 r209_0.2.2.1 r209_0.2.2.2).bind fun r601_1 =>
          if r601_1 = true then
            (f23_broughamlaw35_alive n).bind fun r601_2 =>
            some r601_2
          else
            some false
        else
          some false
      else
        some false
theorem f5_broughamlaw35_FilterReads_ok (n : Nat) (t : ByteArray) (r : Bool) (h : f5_broughamlaw35_FilterReads n t = some r) : FnOK Tryd.prog 5 (f5_broughamlaw35_FilterReads_in t) (f5_broughamlaw35_FilterReads_out r) := by
  unfold f5_broughamlaw35_FilterReads at h
  refine At.fn (r := 0) Tryd.func5 rfl (by kernel_rfl) rfl rfl (by kernel_rfl) ?_
  show At Tryd.prog Tryd.f5 0 0 ⟨[(0, oc (.d (.str t)))], [], [], 0⟩ _
  refine At.step hm ht ⟨[], [], [], [0], []⟩ 1 ⟨[(0, oc (.d (.str t)))], [], [], 0⟩ [] (by kernel_rfl) trivial ?_
  rcases iteS h with ⟨b2_e0, h⟩ | ⟨b2_e0, h⟩
  · refine At.step hm ht ⟨[], [true], [], [], []⟩ 2 ⟨[], [], [], 0⟩ [(decide ((((t.size : Nat) : Int) : Int) > 5000)) = true] (by kernel_rfl) ⟨b2_e0, trivial⟩ ?_
    have h := Option.some.inj h
    subst h
    exact At.fin hm ht ⟨[], [], [], [2], []⟩ [] (by kernel_rfl) trivial
  · refine At.step hm ht ⟨[], [false], [], [0], []⟩ 3 ⟨[(0, oc (.d (.str t)))], [], [], 0⟩ [(decide ((((t.size : Nat) : Int) : Int) > 5000)) = false] (by kernel_rfl) ⟨b2_e0, trivial⟩ ?_
    obtain ⟨r4_0, cr4_0, h⟩ := bindS h
    refine At.step hm ht ⟨[(1, .call [] [] (f21_filter_Parse_out r4_0))], [], [], [0, 3, 4], []⟩ 4 ⟨[(0, oc (.d (.str t))), (3, oc (.d (.pt r4_0.1))), (4, oc (.d (.bool r4_0.2)))], [], [], 0⟩ [FnOK Tryd.prog 21 (f21_filter_Parse_in t) (f21_filter_Parse_out r4_0)] (by kernel_rfl) ⟨(f21_filter_Parse_ok n t r4_0 cr4_0), trivial⟩ ?_
    obtain ⟨r209_0, cr209_0, h⟩ := bindS h
    refine At.step hm ht ⟨[(1, .call [] [] (f22_broughamref35_Parse_out r209_0))], [], [], [3, 4, 5, 6], [6, 2]⟩ 5 ⟨[(3, oc (.d (.pt r4_0.1))), (4, oc (.d (.bool r4_0.2))), (5, oc (.ptr 0 0)), (6, oc (.d (.bool r209_0.1)))], [(1, some ⟨42, 0⟩)], [(0, [zi r209_0.2.1, zi r209_0.2.2.1, .own 1 (.pair (.int .i64) (.pair (.int .i64) .wood)) r209_0.2.2.2])], 2⟩ [FnOK Tryd.prog 22 (f22_broughamref35_Parse_in t) (f22_broughamref35_Parse_out r209_0), 0 + 3 ≤ 3] (by kernel_rfl) ⟨(f22_broughamref35_Parse_ok n t r209_0 cr209_0), (by decide), trivial⟩ ?_
    rcases iteS h with ⟨b520_e0, h⟩ | ⟨b520_e0, h⟩
    · refine At.step hm ht ⟨[], [true], [], [3, 4], []⟩ 6 ⟨[(3, oc (.d (.pt r4_0.1))), (4, oc (.d (.bool r4_0.2)))], [], [], 0⟩ [(!r209_0.1) = true] (by kernel_rfl) ⟨b520_e0, trivial⟩ ?_
      rcases iteS h with ⟨b521_2, h⟩ | ⟨b521_2, h⟩
      · rcases iteS h with ⟨b521_6, h⟩ | ⟨b521_6, h⟩
        · obtain ⟨r521_0, cr521_0, h⟩ := bindS h
          have h := Option.some.inj h
          subst h
          exact At.fin hm ht ⟨[(2, .b true), (6, .b true), (7, .call [] [] (f23_broughamlaw35_alive_out r521_0))], [], [], [2], []⟩ [(!r4_0.2) = true, (PT.isNil r4_0.1) = true, FnOK Tryd.prog 23 (f23_broughamlaw35_alive_in) (f23_broughamlaw35_alive_out r521_0)] (by kernel_rfl) ⟨b521_2, b521_6, (f23_broughamlaw35_alive_ok n r521_0 cr521_0), trivial⟩
        · have h := Option.some.inj h
          subst h
          exact At.fin hm ht ⟨[(2, .b true), (6, .b false)], [], [], [2], []⟩ [(!r4_0.2) = true, (PT.isNil r4_0.1) = false] (by kernel_rfl) ⟨b521_2, b521_6, trivial⟩
      · have h := Option.some.inj h
        subst h
        exact At.fin hm ht ⟨[(2, .b false)], [], [], [2], []⟩ [(!r4_0.2) = false] (by kernel_rfl) ⟨b521_2, trivial⟩
    · refine At.step hm ht ⟨[], [false], [], [3, 4, 5], [0, 1]⟩ 7 ⟨[(3, oc (.d (.pt r4_0.1))), (4, oc (.d (.bool r4_0.2))), (5, oc (.ptr 0 0))], [(1, some ⟨42, 0⟩)], [(0, [zi r209_0.2.1, zi r209_0.2.2.1, .own 1 (.pair (.int .i64) (.pair (.int .i64) .wood)) r209_0.2.2.2])], 2⟩ [(!r209_0.1) = false] (by kernel_rfl) ⟨b520_e0, trivial⟩ ?_
      rcases iteS h with ⟨b601_1, h⟩ | ⟨b601_1, h⟩
      · rcases iteS h with ⟨b601_5, h⟩ | ⟨b601_5, h⟩
        · obtain ⟨r601_0, cr601_0, h⟩ := bindS h
          obtain ⟨r601_1, cr601_1, h⟩ := bindS h
          rcases iteS h with ⟨b601_11, h⟩ | ⟨b601_11, h⟩
          · obtain ⟨r601_2, cr601_2, h⟩ := bindS h
            have h := Option.some.inj h
            subst h
            exact At.fin hm ht ⟨[(1, .b true), (5, .b true), (7, .call [] [] (f25_broughamlaw35_Plain_out r601_0)), (9, .call [] [] (f24_broughamref35_Same_out r601_1)), (11, .b true), (12, .call [] [] (f23_broughamlaw35_alive_out r601_2))], [], [], [2], []⟩ [r4_0.2 = true, (!(PT.isNil r4_0.1)) = true, FnOK Tryd.prog 25 (f25_broughamlaw35_Plain_in r4_0.1 20) (f25_broughamlaw35_Plain_out r601_0), FnOK Tryd.prog 24 (f24_broughamref35_Same_in r601_0.1 r601_0.2.1 r601_0.2.2 r209_0.2.1 r209_0.2.2.1 r209_0.2.2.2) (f24_broughamref35_Same_out r601_1), r601_1 = true, FnOK Tryd.prog 23 (f23_broughamlaw35_alive_in) (f23_broughamlaw35_alive_out r601_2)] (by kernel_rfl) ⟨b601_1, b601_5, (f25_broughamlaw35_Plain_ok n r4_0.1 20 r601_0 cr601_0), (f24_broughamref35_Same_ok n r601_0.1 r601_0.2.1 r601_0.2.2 r209_0.2.1 r209_0.2.2.1 r209_0.2.2.2 r601_1 cr601_1), b601_11, (f23_broughamlaw35_alive_ok n r601_2 cr601_2), trivial⟩
          · have h := Option.some.inj h
            subst h
            exact At.fin hm ht ⟨[(1, .b true), (5, .b true), (7, .call [] [] (f25_broughamlaw35_Plain_out r601_0)), (9, .call [] [] (f24_broughamref35_Same_out r601_1)), (11, .b false)], [], [], [2], []⟩ [r4_0.2 = true, (!(PT.isNil r4_0.1)) = true, FnOK Tryd.prog 25 (f25_broughamlaw35_Plain_in r4_0.1 20) (f25_broughamlaw35_Plain_out r601_0), FnOK Tryd.prog 24 (f24_broughamref35_Same_in r601_0.1 r601_0.2.1 r601_0.2.2 r209_0.2.1 r209_0.2.2.1 r209_0.2.2.2) (f24_broughamref35_Same_out r601_1), r601_1 = false] (by kernel_rfl) ⟨b601_1, b601_5, (f25_broughamlaw35_Plain_ok n r4_0.1 20 r601_0 cr601_0), (f24_broughamref35_Same_ok n r601_0.1 r601_0.2.1 r601_0.2.2 r209_0.2.1 r209_0.2.2.1 r209_0.2.2.2 r601_1 cr601_1), b601_11, trivial⟩
        · have h := Option.some.inj h
          subst h
          exact At.fin hm ht ⟨[(1, .b true), (5, .b false)], [], [], [2], []⟩ [r4_0.2 = true, (!(PT.isNil r4_0.1)) = false] (by kernel_rfl) ⟨b601_1, b601_5, trivial⟩
      · have h := Option.some.inj h
        subst h
        exact At.fin hm ht ⟨[(1, .b false)], [], [], [2], []⟩ [r4_0.2 = false] (by kernel_rfl) ⟨b601_1, trivial⟩
end Go.Proofs.YtakamchmiakicaaDoorF35
